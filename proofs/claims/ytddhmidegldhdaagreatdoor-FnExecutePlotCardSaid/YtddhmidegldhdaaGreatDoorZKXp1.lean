/- A program's end is told: FnExecutePlot returns true, and its arguments read as before. Conditions: the tables, as the row lists them; tied by the card. -/
import Derived.Test.YtddhmidegldhdaaGreatDoorZD0
import Derived.Test.YtddhmidegldhdaaGreatDoorZD1
import Derived.Test.YtddhmidegldhdaaGreatDoorZD2
import Derived.Test.YtddhmidegldhdaaGreatDoorZD3
import Derived.Test.YtddhmidegldhdaaGreatDoorZD4
import Derived.Test.YtddhmidegldhdaaGreatDoorZD5
import Derived.Test.YtddhmidegldhdaaGreatDoorZD6
import Derived.Test.YtddhmidegldhdaaGreatDoorZKXp0
import Derived.Test.YtddhmidegldhdaaGreatDoorTie
import Derived.SevenTiedAt
/- The program's PlotEnd: where the pen ends. Conditions: none. -/
namespace Go.Proofs.YtddhmidegldhdaaGreatDoor
open Go.RowKit Go.Shelf
set_option maxRecDepth 100000

def PenAt (P : Nat) (p : Pen) (d : Bool) (w : World) : Prop := w.heap[P]? = some (.cells #[i64 p.x, i64 p.y, i64 p.t, .bool d] 79 (0, 0))
theorem pen_do : ∀ (k : Nat), k < 256 → stpB (UInt8.ofNat k) = true → stpI k = true ∧ ∀ t : Nat, t < 4 → (penP ⟨0, 0, t⟩ (UInt8.ofNat k)).x = dxI k t ∧ (penP ⟨0, 0, t⟩ (UInt8.ofNat k)).y = dyI k t ∧ ((penP ⟨0, 0, t⟩ (UInt8.ofNat k)).t : Int) = ntI k t := by decide +kernel
theorem penP_add (x y : Int) (t : Nat) (b : UInt8) : penP ⟨x, y, t⟩ b = ⟨x + (penP ⟨0, 0, t⟩ b).x, y + (penP ⟨0, 0, t⟩ b).y, (penP ⟨0, 0, t⟩ b).t⟩ := by
  unfold penP
  cases b == 117 || b == 100 with
  | true => simp
  | false =>
    cases b == 116 with
    | true => simp
    | false => simp
theorem pen_step {b : UInt8} (h : stpB b = true) (p : Pen) (ht : p.t < 4) : stpI b.toNat = true ∧ penP p b = ⟨p.x + dxI b.toNat p.t, p.y + dyI b.toNat p.t, (ntI b.toNat p.t).toNat⟩ ∧ ((ntI b.toNat p.t).toNat : Int) = ntI b.toNat p.t := by
  obtain ⟨h1, h2⟩ := pen_do b.toNat b.toNat_lt (by rwa [UInt8.ofNat_toNat])
  rw [UInt8.ofNat_toNat] at h2
  obtain ⟨a, b', c⟩ := h2 p.t ht
  refine ⟨h1, ?_, ?_⟩
  · obtain ⟨x, y, t⟩ := p
    rw [penP_add, a, b', ← c]
    simp
  · rw [← c]; simp
theorem calls_do {P : Nat} {p : Pen} {d : Bool} {b : UInt8} {w : World} (hp : PenAt P p d w) (ht : TabOk (nwD w P) w) (hb : stpB b = true) (h4 : p.t < 4) (hx : -1000000 ≤ p.x ∧ p.x ≤ 1000000) (hy : -1000000 ≤ p.y ∧ p.y ≤ 1000000) :
    Calls Tryz.prog 52 #[.pointer (some ⟨P, 0, none⟩), .int .u8 b.toNat] w fun e w' => ∃ v d', e = .returned v ∧ PenAt P (penP p b) d' w' ∧ Fr (nwD w P) w w' := by
  obtain ⟨s1, s2, s3⟩ := pen_step hb p h4
  have hlt : P < w.heap.size := (Array.getElem?_eq_some_iff.1 hp).1
  have hν : ∀ i b, (fun i : Nat => if i = 0 then some (⟨P, 0, 4⟩ : Bk) else none) i = some b → i = 0 ∧ b = ⟨P, 0, 4⟩ := fun i b hb => by
    simp only at hb
    split at hb
    · cases hb; exact ⟨by assumption, rfl⟩
    · cases hb
  have h0 : (fun i : Nat => if i = 0 then some (⟨P, 0, 4⟩ : Bk) else none) 0 = some ⟨P, 0, 4⟩ := rfl
  generalize (fun i : Nat => if i = 0 then some (⟨P, 0, 4⟩ : Bk) else none) = ν at *
  refine (calls_pack (vals := [.pointer (some ⟨P, 0, none⟩), .int .u8 b.toNat]) (M := nwD w P) (ν := ν) gmDoP_ok mixed enters Tryz.func52 (noLam' _) (fun k hk => .inl hk) (do_all (b := b.toNat) (t := p.t) (x := p.x) (y := p.y) (d := d) (tp := 79) s1 ⟨by omega, by omega⟩ hx hy).out ⟨?_, ?_, trivial⟩ ⟨fun i => ?_, fun i j b b' hij _ _ hi hj => ?_, fun i b _ hb => ?_, fun i b hb => ?_, ht⟩ (fun i b hb => ?_)).mono ?_
  · simp only [VR]
    exact ⟨_, h0, rfl⟩
  · simp only [VR]
  · match i with
    | 0 => exact ⟨_, [i64 p.x, i64 p.y, i64 p.t, .bool d], h0, rfl, hp, rfl, rfl, rfl, rfl, trivial⟩
    | i + 1 => trivial
  · exact absurd ((hν _ _ hi).1.trans (hν _ _ hj).1.symm) hij
  · rw [(hν _ _ hb).2]; exact .inr rfl
  · rw [(hν _ _ hb).2]; exact hlt
  · rw [(hν _ _ hb).1]; exact Nat.zero_lt_one
  · rintro e w' ⟨v, av, H2, ν', rfl, ⟨_, _, rfl⟩, hv, hR', hfr, hle, _⟩
    refine ⟨v, ndI b.toNat d, rfl, ?_, hfr⟩
    have b0 := hR'.br 0
    simp only [hpPl, List.getD_cons_zero] at b0
    obtain ⟨bk, l, g1, g2, g3, g4⟩ := b0
    rw [hle _ _ h0] at g1
    cases g1
    match l, g4 with
    | [v1, v2, v3, v4], g4 =>
      simp only [VRs, VR, and_true] at g4
      obtain ⟨rfl, rfl, rfl, rfl⟩ := g4
      unfold PenAt
      rw [s2]
      simp only [s3]
      exact g3
def peV (x : Option (List UInt8)) : Value := match x with
  | some T => .tuple #[.agg #[i64 (penQ T).x, i64 (penQ T).y], i64 (penQ T).t, .bool true]
  | none => .tuple #[.agg #[i64 0, i64 0], i64 0, .bool false]
theorem stpQ_all {s T : List UInt8} (h : stpQ s = some T) : T.all stpB = true ∧ T.length ≤ 500 := by
  unfold stpQ at h
  split at h
  · split at h
    · rename_i x hx
      cases h
      exact ⟨fl_all hx, fl_sz hx⟩
    · cases h
  · cases h
theorem two_put {A : Nat} {x y u v : Value} {t : TypeId} {w : World} (h : w.heap[A]? = some (.cells #[x, y] t (0, 0))) : ((w.setCell ⟨A, 0, none⟩ u).setCell ⟨A, 1, none⟩ v).heap[A]? = some (.cells #[u, v] t (0, 0)) := by
  have h1 : (w.setCell ⟨A, 0, none⟩ u).heap[A]? = some (.cells #[u, y] t (0, 0)) := by simp [World.setCell, Array.getElem?_modify, h]
  generalize w.setCell ⟨A, 0, none⟩ u = W at *
  simp [World.setCell, Array.getElem?_modify, h1]
theorem two_cell {A : Nat} {x y : Value} {t : TypeId} {w : World} (h : w.heap[A]? = some (.cells #[x, y] t (0, 0))) : w.cell? ⟨A, 0, none⟩ = some x ∧ w.cell? ⟨A, 1, none⟩ = some y ∧ w.frozen? ⟨A, 0, none⟩ = false ∧ w.frozen? ⟨A, 1, none⟩ = false :=
  ⟨by rw [cell_of_row w A 0 _ _ (0, 0) h]; rfl, by rw [cell_of_row w A 1 _ _ (0, 0) h]; rfl, frozen_of_row w A 0 _ _ h, frozen_of_row w A 1 _ _ h⟩
theorem two_fr {A : Nat} {u v : Value} {w w0 : World} (f : Fr (nwM w0) w0 w) (ha : w0.heap.size ≤ A) : Fr (nwM w0) w0 ((w.setCell ⟨A, 0, none⟩ u).setCell ⟨A, 1, none⟩ v) := by
  refine f.trans ⟨rfl, rfl, rfl, by simp [World.setCell], fun k _ hk => ?_⟩
  have hk : k < w0.heap.size := Nat.not_le.1 hk
  rw [Below.heap_setCell _ _ _ _ (show k ≠ A by omega), Below.heap_setCell _ _ _ _ (show k ≠ A by omega)]
set_option maxHeartbeats 8000000 in
theorem calls_pend (s : ByteArray) {w : World} (ht : TabOk (nwM w) w) : Calls Tryz.prog 19 #[.string s] w (VPost w (peV (stpQ s.data.toList))) := by
  have mixed := mixed
  obtain ⟨W0, hW0⟩ : ∃ W0, w.alloc (.cells #[i64 0, i64 0] 37) = W0 := ⟨_, rfl⟩
  have f0 : Fr (nwM w) w W0 := hW0 ▸ (fr_grown (World.grownBy_alloc w _ none) fun k e => by cases e)
  have a0 : W0.heap[w.heap.size]? = some (.cells #[i64 0, i64 0] 37 (0, 0)) := hW0 ▸ World.alloc_heap_new _ _
  have hst := calls_stepsOf s (ht.nwf f0)
  have hall := fun T => stpQ_all (s := s.data.toList) (T := T)
  generalize stpQ s.data.toList = q at *
  cases q with
  | none =>
    clear hall ht
    rw [show stpV none = .tuple #[.string ⟨#[]⟩, .bool false] from rfl] at hst
    go_enter Tryz.func19, Tryz.ntmps19
    go_wp2_with fail
    refine hst.mono ?_
    rintro e w1 ⟨rfl, f1⟩
    have a1 := (f1.block _ (Array.getElem?_eq_some_iff.1 a0).1 (Nat.not_le.2 (Array.getElem?_eq_some_iff.1 a0).1)).trans a0
    obtain ⟨b1, b2, b3, b4⟩ := two_cell a1
    obtain ⟨r1, r2, _, _⟩ := two_cell (two_put a1 (u := i64 0) (v := i64 0))
    have fr := two_fr (nw_trans f0 f1) (Nat.le_refl w.heap.size) (u := i64 0) (v := i64 0)
    clear hst
    go_wp2_with fail
    refine bodyPost_ret (v := .tuple #[.agg #[i64 0, i64 0], i64 0, .bool false]) ?_ rfl ⟨rfl, fr⟩
    simp [results, Tryz.results19, go_sem, r1, r2]
  | some T =>
    obtain ⟨hT, hT5⟩ := hall T rfl
    clear hall
    rw [show stpV (some T) = .tuple #[.string ⟨T.toArray⟩, .bool true] from rfl] at hst
    have hsz : (ByteArray.mk T.toArray).size = T.length := mkS_size T
    have t9 : Tryz.prog.underlying 9 = some .string := by kernel_rfl
    have t22 : Tryz.prog.underlying 22 = some (.slice 5) := by kernel_rfl
    have t5 : Tryz.prog.underlying 5 = some (.int .u8) := by kernel_rfl
    go_enter Tryz.func19, Tryz.ntmps19
    go_wp2_with fail
    refine hst.mono ?_
    rintro e w1 ⟨rfl, f1⟩
    have a1 := (f1.block _ (Array.getElem?_eq_some_iff.1 a0).1 (Nat.not_le.2 (Array.getElem?_eq_some_iff.1 a0).1)).trans a0
    clear hst
    obtain ⟨W2, hW2⟩ : ∃ W2, W2 = w1.alloc (.cells #[i64 0, i64 0, i64 0, .bool false] 79) := ⟨_, rfl⟩
    have f2 : Fr (nwM w1) w1 W2 := hW2 ▸ (fr_grown (World.grownBy_alloc w1 _ none) fun k e => by cases e)
    have p2 : PenAt w1.heap.size pen0 false W2 := hW2 ▸ World.alloc_heap_new _ _
    have z2 : W2.heap.size = w1.heap.size + 1 := by rw [hW2]; simp
    have hcv := Lib.run_convert_string_bytes W2 9 22 5 ⟨T.toArray⟩ t9 t22 t5
    have f3 : Fr (nwM W2) W2 (Lib.bytesWorld W2 5 ⟨T.toArray⟩) := fr_bytes W2 _ _
    have hcell : ∀ j, j < T.length → (Lib.bytesWorld W2 5 ⟨T.toArray⟩).cell? ⟨W2.heap.size, j, none⟩ = some (.int .u8 (T.getD j 0).toNat) := fun j hj => Lib.bytesWorld_cell W2 _ ⟨T.toArray⟩ j (by rw [hsz]; exact hj)
    have hG : W2.heap.size < (Lib.bytesWorld W2 5 ⟨T.toArray⟩).heap.size := by rw [Lib.bytesWorld_size]; omega
    rw [hsz] at hcv
    generalize Lib.bytesWorld W2 5 ⟨T.toArray⟩ = W at *
    generalize grownCap W2 T.length 0 5 = cap at *
    have pP := (f3.block _ (by omega) (Nat.not_le.2 (by omega : w1.heap.size < W2.heap.size))).trans p2
    have aA := ((nw_trans f2 f3).block _ (Nat.lt_of_lt_of_le (Array.getElem?_eq_some_iff.1 a1).1 (Nat.le_refl _)) (Nat.not_le.2 (Array.getElem?_eq_some_iff.1 a1).1)).trans a1
    have fW := nw_trans (nw_trans (nw_trans f0 f1) f2) f3
    have hAP : w.heap.size < w1.heap.size := (Array.getElem?_eq_some_iff.1 a1).1
    have u22 := run_underlying t22
    generalize hGe : W2.heap.size = G at *
    generalize hPe : w1.heap.size = P at *
    clear f0 f1 f2 f3 a0 a1 p2
    go_wp2_with fail
    rw [← hW2, hcv]
    have hPG : P < G := by omega
    clear hcv hW2 hW0 hGe hPe z2
    go_wp2
    go_loopw [23] (fun i wr => ∃ (k : Nat) (d : Bool), k ≤ T.length ∧ i = .int .i64 k ∧ PenAt P ((T.take k).foldl penP pen0) d wr ∧ Fr (nwM w) w wr ∧ wr.heap[w.heap.size]? = some (.cells #[i64 0, i64 0] 37 (0, 0)) ∧ G < wr.heap.size ∧ ∀ j, j < T.length → wr.cell? ⟨G, j, none⟩ = some (.int .u8 (T.getD j 0).toNat)) (fun i _ => T.length - (intOf i).toNat)
    case atStart => exact ⟨0, false, Nat.zero_le _, rfl, pP, fW, aA, hG, hcell⟩
    case round =>
      obtain ⟨k, d, hk, rfl, hp, fr, ha, hg, hc⟩ := hrel
      by_cases hlt : k < T.length
      · have hck := hc k hlt
        have hb : T.getD k 0 = T[k] := by simp [hlt]
        have hst : stpB T[k] = true := List.all_eq_true.1 hT _ (List.getElem_mem hlt)
        have htk : (T.take (k + 1)).foldl penP pen0 = penP ((T.take k).foldl penP pen0) T[k] := by rw [List.take_succ_eq_append_getElem hlt, List.foldl_append]; rfl
        have hin := penQ_in (T.take k) pen0 0 (by decide)
        rw [List.length_take] at hin
        have hdo := calls_do hp (tab_later ht fr (by omega)) hst hin.2.2 (by omega) (by omega)
        rw [hb] at hck
        have hRP : ∃ c fz, wr.heap[P]? = some (.cells c 79 fz) := ⟨_, _, hp⟩
        have hPz : P < wr.heap.size := (Array.getElem?_eq_some_iff.1 hp).1
        have hAz : w.heap.size < wr.heap.size := (Array.getElem?_eq_some_iff.1 ha).1
        have next : ∀ w5 d', PenAt P (penP ((T.take k).foldl penP pen0) T[k]) d' w5 → Fr (nwD wr P) wr w5 → ∃ (k' : Nat) (d : Bool), k' ≤ T.length ∧ Value.int .i64 ((k : Int) + 1) = .int .i64 k' ∧ PenAt P ((T.take k').foldl penP pen0) d w5 ∧ Fr (nwM w) w w5 ∧ w5.heap[w.heap.size]? = some (.cells #[i64 0, i64 0] 37 (0, 0)) ∧ G < w5.heap.size ∧ ∀ j, j < T.length → w5.cell? ⟨G, j, none⟩ = some (.int .u8 (T.getD j 0).toNat) := fun w5 d' h1 f5 => by
          refine ⟨k + 1, d', by omega, by simp, htk ▸ h1, fr.trans (f5.mono fun i _ h => Or.elim h (fun h => Nat.le_trans fr.size h) fun h => by omega), (f5.block _ hAz fun h => Or.elim h (fun h => by omega) fun h => by omega).trans ha, Nat.lt_of_lt_of_le hg f5.size, fun j hj => ?_⟩
          exact (World.cell?_of_block (a := ⟨G, j, none⟩) (f5.block G hg fun h => Or.elim h (fun h => by omega) fun h => by omega)).trans (hc j hj)
        have hki : (k : Int) < T.length := by omega
        have hTi : (T.length : Int) ≤ 500 := by omega
        generalize T[k] = b at *
        generalize (T.take k).foldl penP pen0 = pp at *
        clear hc hst htk hin hb hT hcell hp fr ha hg hRP aA pP fW ht hAz hPz hG hAP hPG
        go_wp2_with (go_at_call 52; refine hdo.mono ?_; rintro e w5 ⟨v, d', rfl, h1, f5⟩)
        exact ⟨next _ _ h1 f5, by simp [intOf]; omega⟩
      · have hkn : k = T.length := by omega
        subst hkn
        rw [List.take_length] at hp
        have hp2 : PenAt P (penQ T) d wr.drew := hp
        have ha2 : wr.drew.heap[w.heap.size]? = some (.cells #[i64 0, i64 0] 37 (0, 0)) := ha
        have c0 : wr.drew.cell? ⟨P, 0, none⟩ = some (i64 (penQ T).x) := by rw [cell_of_row wr.drew P 0 _ _ (0, 0) hp2]; rfl
        have c1 : wr.drew.cell? ⟨P, 1, none⟩ = some (i64 (penQ T).y) := by rw [cell_of_row wr.drew P 1 _ _ (0, 0) hp2]; rfl
        have c2 : wr.drew.cell? ⟨P, 2, none⟩ = some (i64 (penQ T).t) := by rw [cell_of_row wr.drew P 2 _ _ (0, 0) hp2]; rfl
        obtain ⟨b1, b2, b3, b4⟩ := two_cell ha2
        obtain ⟨r1, r2, _, _⟩ := two_cell (two_put ha (u := i64 (penQ T).x) (v := i64 (penQ T).y))
        have fr3 := two_fr fr (Nat.le_refl w.heap.size) (u := i64 (penQ T).x) (v := i64 (penQ T).y)
        have fr4 : Fr (nwM w) w ((wr.setCell ⟨w.heap.size, 0, none⟩ (i64 (penQ T).x)).setCell ⟨w.heap.size, 1, none⟩ (i64 (penQ T).y)).drew := ⟨fr3.os, fr3.tape, fr3.output, fr3.size, fr3.block⟩
        have hAPn : w.heap.size ≠ P := by omega
        have hPAn : P ≠ w.heap.size := by omega
        have c0' : wr.cell? ⟨P, 0, none⟩ = some (i64 (penQ T).x) := c0
        have c1' : wr.cell? ⟨P, 1, none⟩ = some (i64 (penQ T).y) := c1
        have c2' : wr.cell? ⟨P, 2, none⟩ = some (i64 (penQ T).t) := c2
        have b1' : wr.cell? ⟨w.heap.size, 0, none⟩ = some (i64 0) := b1
        have b2' : wr.cell? ⟨w.heap.size, 1, none⟩ = some (i64 0) := b2
        have b3' : wr.frozen? ⟨w.heap.size, 0, none⟩ = false := b3
        have b4' : wr.frozen? ⟨w.heap.size, 1, none⟩ = false := b4
        clear hc hT hcell hp fr ha hg aA pP fW ht hp2 ha2 fr3 hG
        have hpe : Ending.returned (.tuple #[.agg #[i64 (penQ T).x, i64 (penQ T).y], i64 (penQ T).t, .bool true]) = .returned (peV (some T)) := rfl
        generalize peV (some T) = R at *
        generalize penQ T = pp at *
        go_wp2_with fail
        go_region_held3 (fun w' => w'.cell? ⟨P, 0, none⟩ = some (i64 pp.x) ∧ w'.cell? ⟨P, 1, none⟩ = some (i64 pp.y) ∧ w'.cell? ⟨P, 2, none⟩ = some (i64 pp.t)) (go_keep) (fail)
        go_wp2_with fail
        refine bodyPost_ret (v := .tuple #[.agg #[i64 pp.x, i64 pp.y], i64 pp.t, .bool true]) ?_ rfl ⟨hpe, fr4⟩
        simp [results, Tryz.results19, go_sem, r1, r2]
end Go.Proofs.YtddhmidegldhdaaGreatDoor

/- The reference's PlotEnd. Conditions: none. -/
namespace Go.Proofs.YtddhmidegldhdaaGreatDoor
open Go.RowKit
set_option maxRecDepth 100000

def gmSe (g : ByteArray → Nat → ByteArray) (n : ByteArray → Nat) (k : ByteArray → Bool) (st : Nat → (Nat → List Value) → RnS) (ok : Nat → (Nat → List Value) → Bool) : Gam :=
  ext (ext g0 53 (specR [.val] (FpgO g n k))) 54 (specK [] (FrnO st ok))
theorem treeSe (g : ByteArray → Nat → ByteArray) (n : ByteArray → Nat) (k : ByteArray → Bool) (st : Nat → (Nat → List Value) → RnS) (ok : Nat → (Nat → List Value) → Bool) (s : ByteArray) : execF Tryz.prog (gmSe g n k st ok) noLam 100 Tryz.f20 [.v (.string s)] [] valK
    = bif !k s then Res.out .ret [AV.tup [AV.agg [AV.v (.int .i64 0), AV.v (.int .i64 0)], AV.v (.int .i64 0), AV.v (.bool false)]] [] else needs [Nat.beq (n s) (n s), ok (n s) fun j ↦ [Value.string (g s j)]] (Res.out .ret [AV.tup [AV.agg [AV.v (.int .i64 (RnS.x (st (n s) fun j ↦ [Value.string (g s j)]))), AV.v (.int .i64 (RnS.y (st (n s) fun j ↦ [Value.string (g s j)])))], AV.v (.int .i64 (RnS.t (st (n s) fun j ↦ [Value.string (g s j)]))), AV.v (.bool true)]] []) := by kernel_rfl

theorem pgX_stp (s : ByteArray) : stpQ s.data.toList = bif (pgX s).r.isSome then some (pgX s).T else none := by
  have hl : s.data.toList.length = s.size := by rw [Array.length_toList]; rfl
  unfold stpQ pgX
  rw [hl, dat_cuC]
  by_cases h : s.size ≤ 400
  · rw [if_pos h, if_pos h, flX_fl fun _ => cuC_ne _ _]
    cases (flX false (cuC 32 s.data.toList) []).r with
    | none => rfl
    | some r => rfl
  · rw [if_neg h, if_neg h]
    rfl
theorem strs_one (T : List UInt8) : datW (strs (fun j => [Value.string (oneU T j)]) T.length) = T.map ([·]) := by
  apply List.ext_getElem
  · simp [strs]
  · intro i h1 h2
    simp [strs, strV, oneU, List.getD_eq_getElem?_getD, show i < T.length by simpa using h2]
theorem okRn_one {T : List UInt8} (h : T.all stpB = true) (h5 : T.length ≤ 500) : okRn T.length (fun j => [Value.string (oneU T j)]) = true ∧ datU T.length (fun j => [Value.string (oneU T j)]) = T := by
  unfold okRn datU
  rw [strs_one]
  refine ⟨?_, ?_⟩
  · rw [show allS T.length (fun j => [Value.string (oneU T j)]) = true from List.all_eq_true.2 fun _ _ => rfl, Bool.true_and, show Nat.ble T.length 999 = true from by rw [Nat.ble_eq]; omega, Bool.and_true, List.all_map]
    exact h
  · induction T with
    | nil => rfl
    | cons b T ih =>
      rw [List.map_cons, List.flatten_cons, ih (by rw [List.all_cons, Bool.and_eq_true] at h; exact h.2) (by rw [List.length_cons] at h5; omega)]
      rfl
def FpeO (pv : ByteArray → Value) : List Value → Option (Value × List Bool)
  | [.string s] => some (pv s, [])
  | _ => none
def peB (s : ByteArray) : Value := peV (stpQ s.data.toList)
theorem ok_sPe : SpecOk Tryz.prog 20 (specV (FpeO peB)) := by
  refine mkV (n := 100) (Γ := gmSe pgG pgN pgK stpR okRn) (ext_ok (ext_ok g0_ok ok_pgm) ok_run) Tryz.func20 rfl fun vs x ob hF ho => ?_
  unfold FpeO at hF
  split at hF
  · rename_i s
    simp only [Option.some.injEq, Prod.mk.injEq] at hF
    obtain ⟨rfl, rfl⟩ := hF
    have e := treeSe pgG pgN pgK stpR okRn s
    simp only [List.map_cons, List.map_nil]
    rw [e]
    suffices h : GoodQ _ (Gives (peB s)) from ⟨h.out⟩
    have hq := pgX_stp s
    refine good_cond (fun c => ?_) fun c => ?_
    · have c : (pgX s).r.isSome = false := by simpa [pgK] using c
      rw [c, cond_false] at hq
      unfold peB
      rw [hq]
      exact good_out ⟨_, rfl, rfl⟩
    · have c : (pgX s).r.isSome = true := by simpa [pgK] using c
      rw [c, cond_true] at hq
      obtain ⟨h1, h2⟩ := stpQ_all hq
      obtain ⟨h3, h4⟩ := okRn_one h1 h2
      have hst : stpR (pgN s) (fun j => [Value.string (pgG s j)]) = rpF edI (pgX s).T := by
        unfold stpR
        rw [show datU (pgN s) (fun j => [Value.string (pgG s j)]) = (pgX s).T from h4]
      obtain ⟨p1, p2, p3⟩ := rpF_pen edI (pgX s).T rpS0 pen0 0 (by omega) (by decide) ⟨rfl, rfl, rfl⟩
      rw [hst]
      refine good_needs (by simp only [ob_cons, ob_nil, and_true]; exact ⟨Nat.beq_refl _, h3⟩) ?_
      rw [show (rpF edI (pgX s).T).x = (penQ (pgX s).T).x from p1, show (rpF edI (pgX s).T).y = (penQ (pgX s).T).y from p2, show (rpF edI (pgX s).T).t = ((penQ (pgX s).T).t : Int) from p3]
      unfold peB
      rw [hq]
      exact good_out ⟨_, rfl, rfl⟩
  · cases hF

end Go.Proofs.YtddhmidegldhdaaGreatDoor

/- The desk: plot. Conditions: a tidy list, the rest's length. -/
namespace Go.Proofs.YtddhmidegldhdaaGreatDoor
open Go.RowKit Go.Shelf
set_option maxRecDepth 100000

def plotQ (L : List Wh) (r : List UInt8) : Option (List Wh × List UInt8) := (stpQ r).map fun T => (L, toldL [(penQ T).x, (penQ T).y, ((penQ T).t : Int)])
theorem calls_three (x y z : Int) (w : World) (ht : TabOk (nwM w) w) (h : ∀ n ∈ [x, y, z], -9223372036854775808 ≤ n ∧ n ≤ 9223372036854775807) : Calls Tryz.prog 158 #[.slice (some ⟨w.heap.size, 0, none⟩) 3 3] (w.alloc (.cells #[i64 x, i64 y, i64 z] 3)) (VPost (w.alloc (.cells #[i64 x, i64 y, i64 z] 3)) (.string ⟨(toldL [x, y, z]).toArray⟩)) := by
  have f : Fr (nwM w) w (w.alloc (.cells #[i64 x, i64 y, i64 z] 3)) := fr_grown (World.grownBy_alloc w _ none) fun k e => by cases e
  have := calls_told [x, y, z] w.heap.size 0 3 _ (ht.nwf f) (by simp) (Nat.le_refl _) (by simp) h (fun j hj => by
    have hj : j = 0 ∨ j = 1 ∨ j = 2 := by simp at hj; omega
    unfold World.cell?
    simp only
    rw [World.alloc_heap_new]
    rcases hj with rfl | rfl | rfl <;> rfl)
  exact this
set_option maxHeartbeats 1000000 in
theorem cmd_plot : CmdOk 106 plotQ := fun {D L} s {w} hd ht hT hs => by
  have mixed := mixed
  have hx := calls_pend s ht.nw
  have hz := fun w1 (f : Fr (nwM w) w w1) => CPost.die (L := L) hd f
  have hy := fun w1 (t : List UInt8) (f : Fr (nwM w) w w1) => CPost.say (t := t) hd hT f
  have hin := fun T => stpQ_all (s := s.data.toList) (T := T)
  have ht' := ht.nw
  unfold plotQ
  clear hd ht hT hs
  generalize stpQ s.data.toList = q at *
  cases q with
  | none =>
    clear hy hin ht'
    rw [show peV none = .tuple #[.agg #[i64 0, i64 0], i64 0, .bool false] from rfl] at hx
    go_enter Tryz.func106, Tryz.ntmps106
    go_wp2_with (first | (go_at_call 19; refine hx.mono ?_; rintro e w1 ⟨rfl, f1⟩) | (go_at_call 157; refine (must_no _).mono ?_; rintro e w2 ⟨rfl, rfl⟩))
    exact ⟨rfl, hz _ (nw_trans f1 (fr_grown (World.grownBy_alloc w1 _ none) fun k e => by cases e))⟩
  | some T =>
    have hp := pen_in T
    have h5 := (hin T rfl).2
    rw [show peV (some T) = .tuple #[.agg #[i64 (penQ T).x, i64 (penQ T).y], i64 (penQ T).t, .bool true] from rfl] at hx
    clear hz hin
    replace hy := fun w1 f => hy w1 (toldL [(penQ T).x, (penQ T).y, ((penQ T).t : Int)]) f
    rw [Option.map_some]
    have ho := fun (W : World) (f : Fr (nwM w) w W) => calls_three (penQ T).x (penQ T).y ((penQ T).t : Int) W (ht'.nwf f) (by simp only [List.mem_cons, List.not_mem_nil, or_false, forall_eq_or_imp, forall_eq]; omega)
    generalize toldL [(penQ T).x, (penQ T).y, ((penQ T).t : Int)] = tt at *
    generalize (penQ T).x = px at *
    generalize (penQ T).y = py at *
    generalize ((penQ T).t : Int) = pt at *
    have fin : ∀ w1 w2, Fr (nwM w) w w1 → Fr (nwM ((w1.alloc (.cells #[i64 px, i64 py] 37)).alloc (.cells #[i64 px, i64 py, i64 pt] 3))) ((w1.alloc (.cells #[i64 px, i64 py] 37)).alloc (.cells #[i64 px, i64 py, i64 pt] 3)) w2 → CPost D L (some (L, tt)) w (.returned (.string ⟨tt.toArray⟩)) w2 := fun w1 w2 f1 f2 =>
      hy _ (nw_trans (nw_trans (nw_trans f1 (fr_grown (World.grownBy_alloc w1 _ none) fun k e => by cases e)) (fr_grown (World.grownBy_alloc _ _ none) fun k e => by cases e)) f2)
    have hal : ∀ w1, Fr (nwM w) w w1 → Fr (nwM w) w (w1.alloc (.cells #[i64 px, i64 py] 37)) := fun w1 f1 => nw_trans f1 (fr_grown (World.grownBy_alloc w1 _ none) fun k e => by cases e)
    have ha0 : ∀ w1 : World, (w1.alloc (.cells #[i64 px, i64 py] 37)).heap[w1.heap.size]? = some (.cells #[i64 px, i64 py] 37 (0, 0)) := fun w1 => World.alloc_heap_new w1 _
    have hbb := fun w1 => two_cell (ha0 w1)
    clear ha0
    have hto : ∀ w1 : World, Fr (nwM w) w w1 → Calls Tryz.prog 158 #[.slice (some ⟨w1.heap.size + 1, 0, none⟩) 3 3] ((w1.alloc (.cells #[i64 px, i64 py] 37)).alloc (.cells #[i64 px, i64 py, i64 pt] 3)) (VPost ((w1.alloc (.cells #[i64 px, i64 py] 37)).alloc (.cells #[i64 px, i64 py, i64 pt] 3)) (.string ⟨tt.toArray⟩)) := fun w1 f1 => by
      have := ho _ (hal w1 f1)
      rw [show (w1.alloc (.cells #[i64 px, i64 py] 37)).heap.size = w1.heap.size + 1 from Array.size_push _] at this
      exact this
    clear hy ht' hp h5 ho hal
    go_enter Tryz.func106, Tryz.ntmps106
    go_wp2_with (first | (go_at_call 19; refine hx.mono ?_; rintro e w1 ⟨rfl, f1⟩; obtain ⟨b1, b2, b3, b4⟩ := hbb w1) | (go_at_call 157; refine (must_ok _).mono ?_; rintro e w2 ⟨rfl, rfl⟩))
    refine (hto w1 f1).mono ?_
    rintro e w3 ⟨rfl, f3⟩
    go_wp2_with fail
    go_ret
    exact fin _ _ f1 f3

end Go.Proofs.YtddhmidegldhdaaGreatDoor

/- A plotter program, drawn: trees. Conditions: bytes. -/
namespace Go.Proofs.YtddhmidegldhdaaGreatDoor
open Go.RowKit
set_option maxRecDepth 100000

def FwdO (wt : Int → Nat → (Nat → Int) → Int → ByteArray) (wp : Int → Nat → (Nat → Int) → Int → Int) (k : Int) : List AV → List AB → Option HR
  | [.ptr 0 0 0 0, .v (.int .i64 d)], [.cells [.sl 1 1 0 0 l c, .v (.int .i64 p)] tr, .row false m 1 g tb] => some { val := .v (.string (wt d l (itB g) p)), out := [.cells [.sl 1 1 0 0 l c, .v (.int .i64 (wp d l (itB g) p))] tr, .row false m 1 g tb], obl := [okB m g, decide (l ≤ m), decide (0 ≤ p), decide (p + 1000 * d ≤ 2 ^ 25), decide (0 < m), decide (0 ≤ d), decide (d ≤ k)] }
  | _, _ => none
def gmWd (pk : Nat → (Nat → Int) → Int → Int → Int) (wt : Int → Nat → (Nat → Int) → Int → ByteArray) (wp : Int → Nat → (Nat → Int) → Int → Int) (k : Int) (dc : Int → ByteArray) (iD : Int → Bool) : Gam := ext (ext (ext (gmPk pk) 110 (specK [] (FofO pk))) 63 (specV (fDecP dc iD))) 111 (specK [] (FwdO wt wp k))
abbrev lvWd : Ex → List Nat := lv3 [0, 1, 5, 6, 7] [5] [4]
abbrev stWd (d : Int) (s : ByteArray) (n i : Int) : List AV := [.ptr 0 0 0 0, .v (i64 d), .v (.string s), .v (i64 n), .v (i64 i)]
theorem rndWd_h (pk : Nat → (Nat → Int) → Int → Int → Int) (wt : Int → Nat → (Nat → Int) → Int → ByteArray) (wp : Int → Nat → (Nat → Int) → Int → Int) (k : Int) (dc : Int → ByteArray) (iD : Int → Bool) (l : Nat) (c : Option Nat) (p : Int) (m : Nat) (b : Nat → Int) (tr tb : TypeId) (d : Int) (s : ByteArray) (n i : Int) (u3 : _) (hu3 : (ByteArray.mk (Array.mk [(32 : UInt8)])) = u3) (u6 : _) (hu6 : (ByteArray.mk (Array.mk [(114 : UInt8)])) = u6) (u8 : _) (hu8 : (9223372036854775807 : Nat) = u8) (u9 : _) (hu9 : (0 : Nat) = u9) (u11 : _) (hu11 : (1 : Int) = u11) (u14 : _) (hu14 : (decide (u9 < m)) = u14) (u15 : _) (hu15 : (AV.v (.int .i64 n)) = u15) (u16 : _) (hu16 : (AV.v (.int .i64 d)) = u16) (u18 : _) (hu18 : (decide (l ≤ m)) = u18) (u19 : _) (hu19 : (decide (p + u11 ≤ (1073741824 : Int))) = u19) (u20 : _) (hu20 : (okB m (rowB b)) = u20) (u22 : _) (hu22 : (0 : Int) = u22) (u23 : _) (hu23 : (decide (p + u11 + u11 + (1000 : Int) * IntKind.wrap .i64 (d - u11) ≤ (33554432 : Int))) = u23) (u24 : _) (hu24 : (decide (p ≤ (1073741824 : Int))) = u24) (u25 : _) (hu25 : (AV.ptr u9 u9 u9 u9) = u25) (u27 : _) (hu27 : (Array.mk [(110 : UInt8)]) = u27) (u28 : _) (hu28 : (Array.mk [(101 : UInt8)]) = u28) (u30 : _) (hu30 : (itB (rowB b)) = u30) (u31 : _) (hu31 : (decide (u22 ≤ p + u11)) = u31) (u33 : _) (hu33 : (1 : Nat) = u33) (u34 : _) (hu34 : (ByteArray.mk (Array.mk [(32 : UInt8), (93 : UInt8)])) = u34) (u35 : _) (hu35 : (catB s u3) = u35) (u36 : _) (hu36 : (decide (u22 ≤ IntKind.wrap .i64 (d - u11))) = u36) (u37 : _) (hu37 : (decide (IntKind.wrap .i64 (d - u11) ≤ k)) = u37) (u38 : _) (hu38 : (decide (u22 ≤ p)) = u38) (u2 : _) (hu2 : (IntKind.wrap .i64 (u11 + pk l u30 (p + u11) (4 : Int))) = u2) (u4 : _) (hu4 : (wt (IntKind.wrap .i64 (d - u11)) l u30 (p + u11 + u11)) = u4) (u5 : _) (hu5 : (Int.toNat (pk l u30 (p + u11) (9 : Int))) = u5) (u7 : _) (hu7 : (AV.v (.int .i64 (IntKind.wrap .i64 (i + u11)))) = u7) (u10 : _) (hu10 : (Int.toNat (pk l u30 p (9 : Int))) = u10) (u12 : _) (hu12 : (AB.row false m u33 (rowB b) tb) = u12) (u13 : _) (hu13 : (AV.sl u33 u33 u9 u9 l c) = u13) (u17 : _) (hu17 : [AB.cells [u13, AV.v (.int .i64 (wp (IntKind.wrap .i64 (d - u11)) l u30 (p + u11 + u11)))] tr, u12] = u17) (u21 : _) (hu21 : (catB (catB u35 u6) (dc u2)) = u21) (u26 : _) (hu26 : (catB (catB s u6) (dc u2)) = u26) (u29 : _) (hu29 : [AB.cells [u13, AV.v (.int .i64 (p + u11 + u11))] tr, u12] = u29) (u32 : _) (hu32 : [AB.cells [u13, AV.v (.int .i64 (p + u11))] tr, u12] = u32) (u0 : _) (hu0 : (strV [Value.string (bif Nat.beq u5 u9 then ByteArray.mk (Array.mk [(117 : UInt8)]) else bif Nat.beq u5 u33 then ByteArray.mk (Array.mk [(100 : UInt8)]) else bif Nat.beq u5 (2 : Nat) then ByteArray.mk u27 else bif Nat.beq u5 (3 : Nat) then ByteArray.mk u28 else bif Nat.beq u5 (4 : Nat) then ByteArray.mk (Array.mk [(115 : UInt8)]) else bif Nat.beq u5 (5 : Nat) then ByteArray.mk (Array.mk [(119 : UInt8)]) else bif Nat.beq u5 (6 : Nat) then ByteArray.mk u28 else bif Nat.beq u5 (7 : Nat) then ByteArray.mk u27 else ByteArray.mk (Array.mk [(116 : UInt8)]))]) = u0) (u1 : _) (hu1 : (strV [Value.string (bif Nat.beq u10 u9 then ByteArray.mk (Array.mk [(117 : UInt8)]) else bif Nat.beq u10 u33 then ByteArray.mk (Array.mk [(100 : UInt8)]) else bif Nat.beq u10 (2 : Nat) then ByteArray.mk u27 else bif Nat.beq u10 (3 : Nat) then ByteArray.mk u28 else bif Nat.beq u10 (4 : Nat) then ByteArray.mk (Array.mk [(115 : UInt8)]) else bif Nat.beq u10 (5 : Nat) then ByteArray.mk (Array.mk [(119 : UInt8)]) else bif Nat.beq u10 (6 : Nat) then ByteArray.mk u28 else bif Nat.beq u10 (7 : Nat) then ByteArray.mk u27 else ByteArray.mk (Array.mk [(116 : UInt8)]))]) = u1) : execC Tryz.prog (gmWd pk wt wp k dc iD) 200 noLam (loopAt 0 Tryz.f111) (mkT 0 47 ((lvWd .normal).zip (stWd d s n i))) (hpRd l c p m b tr tb) (leafV 47 lvWd 2)
    = bif decide (i < n) then bif decide (i > u22) then needs [Nat.ble (ByteArray.size s + u33) u8] (bif decide (d > u22) then needs [u20, u18, u38, u24, u14] (bif pk l u30 p (4 : Int) == u22 then needs [Nat.ble (ByteArray.size u35 + u33) u8, u20, u18, u31, u19, u14, iD u2, Nat.ble (ByteArray.size (catB u35 u6) + ByteArray.size (dc u2)) u8, Nat.ble (ByteArray.size u21 + u33) u8, u20, u18, decide (u22 ≤ p + u11 + u11), u23, u14, u36, u37, u14, Nat.ble (ByteArray.size (catB u21 u3) + ByteArray.size u4) u8, Nat.ble (ByteArray.size (catB (catB u21 u3) u4) + (2 : Nat)) u8] (Res.out .normal [u25, u16, AV.v (.string (catB (catB (catB u21 u3) u4) u34)), u15, u7] u17) else needs [u20, u18, u31, u19, u14, u14, Nat.ble (ByteArray.size u35 + ByteArray.size u0) u8] (Res.out .normal [u25, u16, AV.v (.string (catB u35 u0)), u15, u7] u29)) else needs [u20, u18, u38, u24, u14, u14, Nat.ble (ByteArray.size u35 + ByteArray.size u1) u8] (Res.out .normal [u25, u16, AV.v (.string (catB u35 u1)), u15, u7] u32)) else bif decide (d > u22) then needs [u20, u18, u38, u24, u14] (bif pk l u30 p (4 : Int) == u22 then needs [Nat.ble (ByteArray.size s + u33) u8, u20, u18, u31, u19, u14, iD u2, Nat.ble (ByteArray.size (catB s u6) + ByteArray.size (dc u2)) u8, Nat.ble (ByteArray.size u26 + u33) u8, u20, u18, decide (u22 ≤ p + u11 + u11), u23, u14, u36, u37, u14, Nat.ble (ByteArray.size (catB u26 u3) + ByteArray.size u4) u8, Nat.ble (ByteArray.size (catB (catB u26 u3) u4) + (2 : Nat)) u8] (Res.out .normal [u25, u16, AV.v (.string (catB (catB (catB u26 u3) u4) u34)), u15, u7] u17) else needs [u20, u18, u31, u19, u14, u14, Nat.ble (ByteArray.size s + ByteArray.size u0) u8] (Res.out .normal [u25, u16, AV.v (.string (catB s u0)), u15, u7] u29)) else needs [u20, u18, u38, u24, u14, u14, Nat.ble (ByteArray.size s + ByteArray.size u1) u8] (Res.out .normal [u25, u16, AV.v (.string (catB s u1)), u15, u7] u32) else Res.out (Ex.exit u9) [AV.v (.string s)] [AB.cells [u13, AV.v (.int .i64 p)] tr, u12] := by
  subst hu1 hu0 hu32 hu29 hu26 hu21 hu17 hu13 hu12 hu10 hu7 hu5 hu4 hu2 hu38 hu37 hu36 hu35 hu34 hu33 hu31 hu30 hu28 hu27 hu25 hu24 hu23 hu22 hu20 hu19 hu18 hu16 hu15 hu14 hu11 hu9 hu8 hu6 hu3
  kernel_rfl
theorem rndWd (pk : Nat → (Nat → Int) → Int → Int → Int) (wt : Int → Nat → (Nat → Int) → Int → ByteArray) (wp : Int → Nat → (Nat → Int) → Int → Int) (k : Int) (dc : Int → ByteArray) (iD : Int → Bool) (l : Nat) (c : Option Nat) (p : Int) (m : Nat) (b : Nat → Int) (tr tb : TypeId) (d : Int) (s : ByteArray) (n i : Int) : type_of% (rndWd_h pk wt wp k dc iD l c p m b tr tb d s n i _ rfl _ rfl _ rfl _ rfl _ rfl _ rfl _ rfl _ rfl _ rfl _ rfl _ rfl _ rfl _ rfl _ rfl _ rfl _ rfl _ rfl _ rfl _ rfl _ rfl _ rfl _ rfl _ rfl _ rfl _ rfl _ rfl _ rfl _ rfl _ rfl _ rfl _ rfl _ rfl _ rfl _ rfl _ rfl _ rfl _ rfl _ rfl _ rfl) := rndWd_h pk wt wp k dc iD l c p m b tr tb d s n i _ rfl _ rfl _ rfl _ rfl _ rfl _ rfl _ rfl _ rfl _ rfl _ rfl _ rfl _ rfl _ rfl _ rfl _ rfl _ rfl _ rfl _ rfl _ rfl _ rfl _ rfl _ rfl _ rfl _ rfl _ rfl _ rfl _ rfl _ rfl _ rfl _ rfl _ rfl _ rfl _ rfl _ rfl _ rfl _ rfl _ rfl _ rfl _ rfl

noncomputable abbrev lamWd (l : Nat) (c : Option Nat) (p1 p2 : Int) (m : Nat) (b : Nat → Int) (tr tb : TypeId) (d : Int) (n : Int) (S : ByteArray) : Nat → Option Sum := oneL 0 (atS 47 (lvWd .normal) 2 (stWd d ByteArray.empty n 0) (hpRd l c p1 m b tr tb) (fun K => K .normal (mkT 0 47 [(5, .v (.string S))]) (hpRd l c p2 m b tr tb)))
theorem treeWd (pk : Nat → (Nat → Int) → Int → Int → Int) (wt : Int → Nat → (Nat → Int) → Int → ByteArray) (wp : Int → Nat → (Nat → Int) → Int → Int) (k : Int) (dc : Int → ByteArray) (iD : Int → Bool) (l : Nat) (c : Option Nat) (p : Int) (m : Nat) (b : Nat → Int) (tr tb : TypeId) (d : Int) (n p2 : Int) (S : ByteArray) : execF Tryz.prog (gmWd pk wt wp k dc iD) (lamWd l c (p + 1) p2 m b tr tb d n S) 200 Tryz.f111 [.ptr 0 0 0 0, .v (i64 d)] (hpRd l c p m b tr tb) (packK 2)
    = needs [okB m (rowB b), decide (l ≤ m), decide ((0 : Int) ≤ p), decide (p ≤ (1073741824 : Int)), decide ((0 : Nat) < m), chk ([AV.ptr (0 : Nat) (0 : Nat) (0 : Nat) (0 : Nat), AV.v (.int .i64 d), AV.v (.string (ByteArray.mk (Array.mk []))), AV.v (.int .i64 (IntKind.wrap .i64 ((1 : Int) + pk l (itB (rowB b)) p (5 : Int)))), AV.v (.int .i64 0)] = stWd d (ByteArray.mk (Array.mk [])) n (0 : Int) ∧ Hsim [AB.cells [AV.sl 1 (1 : Nat) (0 : Nat) (0 : Nat) l c, AV.v (.int .i64 (p + (1 : Int)))] tr, AB.row false m 1 (rowB b) tb] (hpRd l c (p + (1 : Int)) m b tr tb))] (Res.out .ret [AV.v (.string S)] [AB.cells [AV.sl 1 (1 : Nat) (0 : Nat) (0 : Nat) l c, AV.v (.int .i64 p2)] tr, AB.row false m 1 (rowB b) tb]) := by kernel_rfl

theorem treePg2_h (pk : Nat → (Nat → Int) → Int → Int → Int) (wt : Int → Nat → (Nat → Int) → Int → ByteArray) (wp : Int → Nat → (Nat → Int) → Int → Int) (k : Int) (dc : Int → ByteArray) (iD : Int → Bool) (l : Nat) (c : Option Nat) (p : Int) (m : Nat) (b : Nat → Int) (tr tb : TypeId) (u1 : _) (hu1 : (32 : UInt8) = u1) (u2 : _) (hu2 : (101 : UInt8) = u2) (u6 : _) (hu6 : (114 : UInt8) = u6) (u7 : _) (hu7 : (decide ((0 : Nat) < m)) = u7) (u8 : _) (hu8 : (93 : UInt8) = u8) (u9 : _) (hu9 : (1 : Int) = u9) (u10 : _) (hu10 : (itB (rowB b)) = u10) (u11 : _) (hu11 : (AV.sl 1 (1 : Nat) (0 : Nat) (0 : Nat) l c) = u11) (u0 : _) (hu0 : (Int.toNat (pk l u10 (p + u9) (8 : Int))) = u0) (u3 : _) (hu3 : [okB m (rowB b), decide (l ≤ m), decide ((0 : Int) ≤ p + u9), decide (p + u9 ≤ (1073741824 : Int)), u7, u7] = u3) (u4 : _) (hu4 : [AB.cells [u11, AV.v (.int .i64 (p + u9 + u9))] tr, AB.row false m 1 (rowB b) tb] = u4) (u5 : _) (hu5 : (Int.toNat (pk l u10 (p + u9) (4 : Int))) = u5) : execF Tryz.prog (gmWd pk wt wp k dc iD) noLam 200 Tryz.f50 [.ptr 0 0 0 0] (hpRd l c p m b tr tb) (packK 2)
    = needs [okB m (rowB b), decide (l ≤ m), decide ((0 : Int) ≤ p), decide (p ≤ (1073741824 : Int)), u7] (bif pk l u10 p (14 : Int) == (0 : Int) then needs u3 (Res.out .ret [AV.v (.string (strV [Value.string (bif Nat.beq u0 (0 : Nat) then ByteArray.mk (Array.mk []) else bif Nat.beq u0 (1 : Nat) then ByteArray.mk (Array.mk [(120 : UInt8)]) else bif Nat.beq u0 (2 : Nat) then ByteArray.mk (Array.mk [u6, (50 : UInt8), u1, u8]) else bif Nat.beq u0 (3 : Nat) then ByteArray.mk (Array.mk [u6, (48 : UInt8), u1, u2, u1, u8]) else bif Nat.beq u0 (4 : Nat) then ByteArray.mk (Array.mk [u2, u1, u1, u2]) else bif Nat.beq u0 (5 : Nat) then ByteArray.mk (Array.mk [u6, (50 : UInt8), u1, u2]) else bif Nat.beq u0 (6 : Nat) then ByteArray.mk (Array.mk [u2, u1, u8]) else ByteArray.mk (Array.mk [u6, (57 : UInt8), u1, u6, (57 : UInt8), u1, u6, (57 : UInt8), u1, u2, u1, u8, u1, u8, u1, u8]))]))] u4) else bif pk l u10 p (14 : Int) == u9 then needs u3 (Res.out .ret [AV.v (.string (strV [Value.string (bif Nat.beq u5 (0 : Nat) then ByteArray.mk (Array.mk [(100 : UInt8), u1, u6, (52 : UInt8), u1, u2, u1, (116 : UInt8), u1, u8]) else bif Nat.beq u5 (1 : Nat) then ByteArray.mk (Array.mk [(100 : UInt8), u1, u2, u1, (110 : UInt8), u1, (119 : UInt8), u1, (115 : UInt8)]) else bif Nat.beq u5 (2 : Nat) then ByteArray.mk (Array.mk [u2, u1, u2, u1, u2, u1, u2, u1, u2, u1, u2, u1, u2, u1, u2, u1, u2, u1, u2, u1, u2, u1, u2]) else ByteArray.mk (Array.mk [(100 : UInt8), u1, u6, (57 : UInt8), u1, u6, (57 : UInt8), u1, u2, u1, u8, u1, (116 : UInt8), u1, u8]))]))] u4) else needs [okB m (rowB b), decide (l ≤ m), decide ((0 : Int) ≤ p + u9), decide (p + u9 + (2000 : Int) ≤ (33554432 : Int)), u7, decide ((2 : Int) ≤ k), u7] (Res.out .ret [AV.v (.string (wt (2 : Int) l u10 (p + u9)))] [AB.cells [u11, AV.v (.int .i64 (wp (2 : Int) l u10 (p + u9)))] tr, AB.row false m 1 (rowB b) tb])) := by
  subst hu5 hu4 hu3 hu0 hu11 hu10 hu9 hu8 hu7 hu6 hu2 hu1
  kernel_rfl
theorem treePg2 (pk : Nat → (Nat → Int) → Int → Int → Int) (wt : Int → Nat → (Nat → Int) → Int → ByteArray) (wp : Int → Nat → (Nat → Int) → Int → Int) (k : Int) (dc : Int → ByteArray) (iD : Int → Bool) (l : Nat) (c : Option Nat) (p : Int) (m : Nat) (b : Nat → Int) (tr tb : TypeId) : type_of% (treePg2_h pk wt wp k dc iD l c p m b tr tb _ rfl _ rfl _ rfl _ rfl _ rfl _ rfl _ rfl _ rfl _ rfl _ rfl _ rfl _ rfl) := treePg2_h pk wt wp k dc iD l c p m b tr tb _ rfl _ rfl _ rfl _ rfl _ rfl _ rfl _ rfl _ rfl _ rfl _ rfl _ rfl _ rfl

end Go.Proofs.YtddhmidegldhdaaGreatDoor

/- A plotter program's words, drawn: a round, by existence. Conditions: bytes; a depth under k + 2. -/
namespace Go.Proofs.YtddhmidegldhdaaGreatDoor
open Go.RowKit
set_option maxRecDepth 100000

def chW (k : Nat) : ByteArray := strV [Value.string (bif Nat.beq k 0 then ByteArray.mk (Array.mk [117]) else bif Nat.beq k 1 then ByteArray.mk (Array.mk [100]) else bif Nat.beq k 2 then ByteArray.mk (Array.mk [110]) else bif Nat.beq k 3 then ByteArray.mk (Array.mk [101]) else bif Nat.beq k 4 then ByteArray.mk (Array.mk [115]) else bif Nat.beq k 5 then ByteArray.mk (Array.mk [119]) else bif Nat.beq k 6 then ByteArray.mk (Array.mk [101]) else bif Nat.beq k 7 then ByteArray.mk (Array.mk [110]) else ByteArray.mk (Array.mk [116]))]
theorem chW_size (k : Nat) : (chW k).size = 1 := by
  unfold chW
  cases Nat.beq k 0 <;> cases Nat.beq k 1 <;> cases Nat.beq k 2 <;> cases Nat.beq k 3 <;> cases Nat.beq k 4 <;> cases Nat.beq k 5 <;> cases Nat.beq k 6 <;> cases Nat.beq k 7 <;> rfl
theorem wd_round {wt : Int → Nat → (Nat → Int) → Int → ByteArray} {wp : Int → Nat → (Nat → Int) → Int → Int} {k : Int} {Z : Nat} {A : Int} (hZ : Z ≤ 1000000) (_ : A ≤ 150)
    (hb : ∀ d l b p, (wt d l b p).size ≤ Z ∧ p ≤ wp d l b p ∧ wp d l b p ≤ p + A)
    (l : Nat) (b : Nat → Int) (d : Int) (n i : Nat) (s : ByteArray) (p : Int) :
    ∃ (S : ByteArray) (P : Int), S.size ≤ s.size + 25 + Z ∧ p ≤ P ∧ P ≤ p + (2 + A) ∧ ∀ (c : Option Nat) (m : Nat) (tr tb : TypeId), okB m (rowB b) = true → l ≤ m → 0 ≤ p → p + 1000 * (d - 1) + 2 ≤ 2 ^ 25 → 0 < m → 0 ≤ d → d ≤ k + 1 → d ≤ 2 → s.size ≤ 10000000 → i < n → n ≤ 5 →
      GoodQ (execC Tryz.prog (gmWd pkV wt wp k decB inD) 200 noLam (loopAt 0 Tryz.f111) (mkT 0 47 ((lvWd .normal).zip (stWd d s n i))) (hpRd l c p m b tr tb) (leafV 47 lvWd 2)) (fun e vs He => e = .normal ∧ vs = stWd d S n ((i + 1 : Nat) : Int) ∧ He = hpRd l c P m b tr tb) := by
  have q2 := pkV_nn l b (p + 1) 4
  have q3 := pkV_lt l b (p + 1) (n := 4) (by omega)
  have q4 := hb (d - 1) l b (p + 1 + 1)
  have l32 : (ByteArray.mk (Array.mk [(32 : UInt8)])).size = 1 := rfl
  have l114 : (ByteArray.mk (Array.mk [(114 : UInt8)])).size = 1 := rfl
  have l93 : (ByteArray.mk (Array.mk [(32 : UInt8), (93 : UInt8)])).size = 2 := rfl
  have z1 := chW_size (pkV l b p 9).toNat
  have z2 := chW_size (pkV l b (p + 1) 9).toNat
  have z3 := decB_size (n := 1 + pkV l b (p + 1) 4) (by omega) (by omega)
  have w1 : IntKind.wrap IntKind.i64 (1 + pkV l b (p + 1) 4) = 1 + pkV l b (p + 1) 4 := wr_in (by omega)
  have hD : inD (1 + pkV l b (p + 1) 4) = true := by unfold inD; rw [decide_eq_true_eq]; omega
  have wi : i < n → n ≤ 5 → IntKind.wrap IntKind.i64 ((i : Int) + 1) = ((i + 1 : Nat) : Int) := fun h1 h2 => by rw [wr_in (by omega)]; omega
  have wd : 0 < d → d ≤ 2 → IntKind.wrap IntKind.i64 (d - 1) = d - 1 := fun h1 h2 => wr_in (by omega)
  by_cases hi : 0 < i
  · by_cases hd : 0 < d
    · cases h4 : pkV l b p 4 == 0 with
      | true =>
        refine ⟨catB (catB (catB (catB (catB (catB s (ByteArray.mk (Array.mk [32]))) (ByteArray.mk (Array.mk [114]))) (decB (1 + pkV l b (p + 1) 4))) (ByteArray.mk (Array.mk [32]))) (wt (d - 1) l b (p + 1 + 1))) (ByteArray.mk (Array.mk [32, 93])), wp (d - 1) l b (p + 1 + 1), ?_, by omega, by omega, fun c m tr tb hbb hlm h0 h1 hm hd0 hdk hd2 hs hin hn5 => ?_⟩
        · simp only [catB_size, l32, l114, l93]; omega
        · rw [rndWd, itB_row, wi hin hn5, wd hd hd2, w1]
          unfold chW at z1 z2
          refine good_true (decide_eq_true (by omega)) (good_true (decide_eq_true (by omega)) (good_needs ?_ (good_true (decide_eq_true hd) (good_needs ?_ (good_true h4 (good_needs ?_ (good_out ⟨rfl, rfl, rfl⟩)))))))
          · simp only [ob_cons, ob_nil, and_true, Nat.ble_eq]; omega
          · simp only [ob_cons, ob_nil, and_true, decide_eq_true_eq, hbb, true_and]; omega
          · simp only [ob_cons, ob_nil, and_true, decide_eq_true_eq, hbb, true_and, Nat.ble_eq, catB_size, l32, l114, hD]; omega
      | false =>
        refine ⟨catB (catB s (ByteArray.mk (Array.mk [32]))) (chW (pkV l b (p + 1) 9).toNat), p + 1 + 1, ?_, by omega, by omega, fun c m tr tb hbb hlm h0 h1 hm hd0 hdk hd2 hs hin hn5 => ?_⟩
        · simp only [catB_size, l32, z2]; omega
        · rw [rndWd, itB_row, wi hin hn5, wd hd hd2, w1]
          refine good_true (decide_eq_true (by omega)) (good_true (decide_eq_true (by omega)) (good_needs ?_ (good_true (decide_eq_true hd) (good_needs ?_ (good_false h4 (good_needs ?_ (good_out ⟨rfl, rfl, rfl⟩)))))))
          · simp only [ob_cons, ob_nil, and_true, Nat.ble_eq]; omega
          · simp only [ob_cons, ob_nil, and_true, decide_eq_true_eq, hbb, true_and]; omega
          · unfold chW at z2
            simp only [ob_cons, ob_nil, and_true, decide_eq_true_eq, hbb, true_and, Nat.ble_eq, catB_size, l32, z2]; omega
    · refine ⟨catB (catB s (ByteArray.mk (Array.mk [32]))) (chW (pkV l b p 9).toNat), p + 1, ?_, by omega, by omega, fun c m tr tb hbb hlm h0 h1 hm hd0 hdk hd2 hs hin hn5 => ?_⟩
      · simp only [catB_size, l32, z1]; omega
      · rw [rndWd, itB_row, wi hin hn5, w1]
        refine good_true (decide_eq_true (by omega)) (good_true (decide_eq_true (by omega)) (good_needs ?_ (good_false (decide_eq_false hd) (good_needs ?_ (good_out ⟨rfl, rfl, rfl⟩)))))
        · simp only [ob_cons, ob_nil, and_true, Nat.ble_eq]; omega
        · unfold chW at z1
          simp only [ob_cons, ob_nil, and_true, decide_eq_true_eq, hbb, true_and, Nat.ble_eq, catB_size, l32, z1]; omega
  · by_cases hd : 0 < d
    · cases h4 : pkV l b p 4 == 0 with
      | true =>
        refine ⟨catB (catB (catB (catB (catB s (ByteArray.mk (Array.mk [114]))) (decB (1 + pkV l b (p + 1) 4))) (ByteArray.mk (Array.mk [32]))) (wt (d - 1) l b (p + 1 + 1))) (ByteArray.mk (Array.mk [32, 93])), wp (d - 1) l b (p + 1 + 1), ?_, by omega, by omega, fun c m tr tb hbb hlm h0 h1 hm hd0 hdk hd2 hs hin hn5 => ?_⟩
        · simp only [catB_size, l32, l114, l93]; omega
        · rw [rndWd, itB_row, wi hin hn5, wd hd hd2, w1]
          refine good_true (decide_eq_true (by omega)) (good_false (decide_eq_false (by omega)) (good_true (decide_eq_true hd) (good_needs ?_ (good_true h4 (good_needs ?_ (good_out ⟨rfl, rfl, rfl⟩))))))
          · simp only [ob_cons, ob_nil, and_true, decide_eq_true_eq, hbb, true_and]; omega
          · simp only [ob_cons, ob_nil, and_true, decide_eq_true_eq, hbb, true_and, Nat.ble_eq, catB_size, l32, l114, hD]; omega
      | false =>
        refine ⟨catB s (chW (pkV l b (p + 1) 9).toNat), p + 1 + 1, ?_, by omega, by omega, fun c m tr tb hbb hlm h0 h1 hm hd0 hdk hd2 hs hin hn5 => ?_⟩
        · simp only [catB_size, z2]; omega
        · rw [rndWd, itB_row, wi hin hn5, wd hd hd2, w1]
          refine good_true (decide_eq_true (by omega)) (good_false (decide_eq_false (by omega)) (good_true (decide_eq_true hd) (good_needs ?_ (good_false h4 (good_needs ?_ (good_out ⟨rfl, rfl, rfl⟩))))))
          · simp only [ob_cons, ob_nil, and_true, decide_eq_true_eq, hbb, true_and]; omega
          · unfold chW at z2
            simp only [ob_cons, ob_nil, and_true, decide_eq_true_eq, hbb, true_and, Nat.ble_eq, z2]; omega
    · refine ⟨catB s (chW (pkV l b p 9).toNat), p + 1, ?_, by omega, by omega, fun c m tr tb hbb hlm h0 h1 hm hd0 hdk hd2 hs hin hn5 => ?_⟩
      · simp only [catB_size, z1]; omega
      · rw [rndWd, itB_row, wi hin hn5, w1]
        refine good_true (decide_eq_true (by omega)) (good_false (decide_eq_false (by omega)) (good_false (decide_eq_false hd) (good_needs ?_ (good_out ⟨rfl, rfl, rfl⟩))))
        unfold chW at z1
        simp only [ob_cons, ob_nil, and_true, decide_eq_true_eq, hbb, true_and, Nat.ble_eq, z1]; omega

end Go.Proofs.YtddhmidegldhdaaGreatDoor

/- A plotter program's words, drawn: l92Words by its depth, by existence. Conditions: bytes. -/
namespace Go.Proofs.YtddhmidegldhdaaGreatDoor
open Go.RowKit
set_option maxRecDepth 100000

theorem gmWd_ok {wt : Int → Nat → (Nat → Int) → Int → ByteArray} {wp : Int → Nat → (Nat → Int) → Int → Int} {k : Int} (h : SpecOk Tryz.prog 111 (specK [] (FwdO wt wp k))) : GamOk Tryz.prog (gmWd pkV wt wp k decB inD) := ext_ok (ext_ok (ext_ok (ext_ok g0_ok ok_pick) ok_of) ok_dec) h
theorem wd_loop {wt : Int → Nat → (Nat → Int) → Int → ByteArray} {wp : Int → Nat → (Nat → Int) → Int → Int} {k : Int} {Z : Nat} {A : Int} (hp : SpecOk Tryz.prog 111 (specK [] (FwdO wt wp k))) (hZ : Z ≤ 1000000) (hA0 : 0 ≤ A) (hA : A ≤ 150)
    (hb : ∀ d l b p, (wt d l b p).size ≤ Z ∧ p ≤ wp d l b p ∧ wp d l b p ≤ p + A)
    (l : Nat) (b : Nat → Int) (d : Int) (n : Nat) (p : Int) (hn : n ≤ 5) :
    ∃ (S : ByteArray) (P : Int), S.size ≤ 5 * (25 + Z) ∧ p ≤ P ∧ P ≤ p + 5 * (2 + A) ∧ ∀ (c : Option Nat) (m : Nat) (tr tb : TypeId), okB m (rowB b) = true → l ≤ m → 0 ≤ p → p + 1000 * d ≤ 2 ^ 25 + 1 → 0 < m → 0 ≤ d → d ≤ k + 1 → d ≤ 2 →
      SumOk Tryz.prog 2 (.block 0 (.loop (loopAt 0 Tryz.f111))) (atS 47 (lvWd .normal) 2 (stWd d ByteArray.empty n ((0 : Nat) : Int)) (hpRd l c p m b tr tb) (fun K => K .normal (mkT 0 47 [(5, .v (.string S))]) (hpRd l c P m b tr tb))) := by
  have hex : ∀ x : Nat × (ByteArray × Int), ∃ r : ByteArray × Int, r.1.size ≤ x.2.1.size + 25 + Z ∧ x.2.2 ≤ r.2 ∧ r.2 ≤ x.2.2 + (2 + A) ∧ ∀ (c : Option Nat) (m : Nat) (tr tb : TypeId), okB m (rowB b) = true → l ≤ m → 0 ≤ x.2.2 → x.2.2 + 1000 * (d - 1) + 2 ≤ 2 ^ 25 → 0 < m → 0 ≤ d → d ≤ k + 1 → d ≤ 2 → x.2.1.size ≤ 10000000 → x.1 < n → n ≤ 5 →
      GoodQ (execC Tryz.prog (gmWd pkV wt wp k decB inD) 200 noLam (loopAt 0 Tryz.f111) (mkT 0 47 ((lvWd .normal).zip (stWd d x.2.1 n x.1))) (hpRd l c x.2.2 m b tr tb) (leafV 47 lvWd 2)) (fun e vs He => e = .normal ∧ vs = stWd d r.1 n ((x.1 + 1 : Nat) : Int) ∧ He = hpRd l c r.2 m b tr tb) := fun x => by
    obtain ⟨S, P, h1, h2, h3, h4⟩ := wd_round hZ hA hb l b d n x.1 x.2.1 x.2.2
    exact ⟨(S, P), h1, h2, h3, h4⟩
  obtain ⟨f, hf⟩ := Classical.axiomOfChoice hex
  obtain ⟨g, g0, gs⟩ : ∃ g : Nat → ByteArray × Int, g 0 = (ByteArray.empty, p) ∧ ∀ j, g (j + 1) = f (j, g j) := ⟨fun j => Nat.rec (ByteArray.empty, p) (fun j q => f (j, q)) j, rfl, fun _ => rfl⟩
  have bd : ∀ j, (g j).1.size ≤ j * (25 + Z) ∧ p ≤ (g j).2 ∧ (g j).2 ≤ p + (j : Int) * (2 + A) := by
    intro j
    induction j with
    | zero => rw [g0]; exact ⟨Nat.zero_le _, Int.le_refl _, by simp⟩
    | succ j ih =>
      obtain ⟨h1, h2, h3, _⟩ := hf (j, g j)
      rw [gs]
      simp only at h1 h2 h3
      refine ⟨?_, by omega, ?_⟩
      · rw [Nat.succ_mul]; omega
      · rw [Int.natCast_succ, Int.add_mul, Int.one_mul]; omega
  have bd' : ∀ j, j ≤ n → (g j).1.size ≤ 5 * (25 + Z) ∧ p ≤ (g j).2 ∧ (g j).2 ≤ p + 5 * (2 + A) := fun j hj => by
    obtain ⟨h1, h2, h3⟩ := bd j
    have e1 : j * (25 + Z) ≤ 5 * (25 + Z) := Nat.mul_le_mul_right _ (by omega)
    have e2 : (j : Int) * (2 + A) ≤ 5 * (2 + A) := Int.mul_le_mul_of_nonneg_right (by omega) (by omega)
    omega
  refine ⟨(g n).1, (g n).2, (bd' n (Nat.le_refl _)).1, (bd' n (Nat.le_refl _)).2.1, (bd' n (Nat.le_refl _)).2.2, fun c m tr tb hbb hlm h0 h1 hm hd0 hdk hd2 => ?_⟩
  have e0 : hpRd l c p m b tr tb = hpRd l c (g 0).2 m b tr tb := by rw [g0]
  have e1 : stWd d ByteArray.empty n ((0 : Nat) : Int) = stWd d (g 0).1 n ((0 : Nat) : Int) := by rw [g0]
  rw [e0, e1]
  refine for_at (gmWd_ok hp) (n := 200) (m := 2) (lv := lvWd) (fun j => stWd d (g j).1 n (j : Nat)) (fun j => hpRd l c (g j).2 m b tr tb) (fun _ => True) n (fun _ => noLam) (lv3_ris rfl rfl rfl) (Nat.le_refl _) trivial fun K Q hkk j _ hj => ⟨noLam_ok _ _ _, ?_⟩
  obtain ⟨s1, s2, s3⟩ := bd' j hj
  by_cases hlt : j < n
  · have hq := (hf (j, g j)).2.2.2 c m tr tb hbb hlm (by simp only; omega) (by simp only; omega) hm hd0 hdk hd2 (by simp only; omega) hlt hn
    refine ⟨res_mono ?_ hq.out⟩
    rintro e vs He ⟨rfl, rfl, rfl⟩
    refine ⟨j + 1, ⟨rfl, hlt, trivial⟩, ?_, ?_⟩
    · show _ = stWd d (g (j + 1)).1 n ((j + 1 : Nat) : Int)
      rw [gs]
    · show Hsim _ (hpRd l c (g (j + 1)).2 m b tr tb)
      rw [gs]
      exact Hsim.refl _
  · have hjn : j = n := by omega
    subst hjn
    rw [rndWd, itB_row]
    refine good_false (decide_eq_false (by omega)) (good_out ⟨_, Hsim.refl _, ?_⟩)
    rw [if_pos rfl]
    exact hkk

theorem wd_ex {wt : Int → Nat → (Nat → Int) → Int → ByteArray} {wp : Int → Nat → (Nat → Int) → Int → Int} {k : Int} {Z : Nat} {A : Int} (hp : SpecOk Tryz.prog 111 (specK [] (FwdO wt wp k))) (hZ : Z ≤ 1000000) (hA0 : 0 ≤ A) (hA : A ≤ 150)
    (hb : ∀ d l b p, (wt d l b p).size ≤ Z ∧ p ≤ wp d l b p ∧ wp d l b p ≤ p + A) (hk : k ≤ 1) (d : Int) (l : Nat) (b : Nat → Int) (p : Int) :
    ∃ (S : ByteArray) (P : Int), S.size ≤ 5 * (25 + Z) ∧ p ≤ P ∧ P ≤ p + (1 + 5 * (2 + A)) ∧ ∀ (c : Option Nat) (m : Nat) (tr tb : TypeId), okB m (rowB b) = true → l ≤ m → 0 ≤ p → p + 1000 * d ≤ 2 ^ 25 → 0 < m → 0 ≤ d → d ≤ k + 1 →
      ∃ Λ, (∀ cc, (Tryz.f111).body = some cc → LamOk Tryz.prog 2 Λ cc) ∧ GoodQ (execF Tryz.prog (gmWd pkV wt wp k decB inD) Λ 200 Tryz.f111 [.ptr 0 0 0 0, .v (i64 d)] (hpRd l c p m b tr tb) (packK 2)) (fun _ vs He => vs = [.v (.string S)] ∧ He = hpRd l c P m b tr tb) := by
  have q1 := pkV_nn l b p 5
  have q2 := pkV_lt l b p (n := 5) (by omega)
  obtain ⟨n, hn⟩ := Int.eq_ofNat_of_zero_le (show 0 ≤ 1 + pkV l b p 5 by omega)
  obtain ⟨S, P, h1, h2, h3, h4⟩ := wd_loop hp hZ hA0 hA hb l b d n (p + 1) (by omega)
  refine ⟨S, P, h1, by omega, by omega, fun c m tr tb hbb hlm h0 hp0 hm hd0 hdk => ?_⟩
  have hs := h4 c m tr tb hbb hlm (by omega) (by omega) hm hd0 hdk (by omega)
  refine ⟨lamWd l c (p + 1) P m b tr tb d n S, lam1 (by kernel_rfl) hs, ?_⟩
  rw [treeWd, itB_row, wr_in (by omega), hn]
  exact good_needs (ob_cons.2 ⟨hbb, ob_cons.2 ⟨decide_eq_true hlm, ob_cons.2 ⟨decide_eq_true h0, ob_cons.2 ⟨decide_eq_true (by omega), ob_cons.2 ⟨decide_eq_true hm, ob_cons.2 ⟨chk_of ⟨rfl, Hsim.refl _⟩, rfl⟩⟩⟩⟩⟩⟩) (good_out ⟨rfl, rfl⟩)
theorem wd_next {k : Int} {Z : Nat} {A : Int} (hZ : Z ≤ 1000000) (hA0 : 0 ≤ A) (hA : A ≤ 150) (hk : k ≤ 1)
    (h : ∃ (wt : Int → Nat → (Nat → Int) → Int → ByteArray) (wp : Int → Nat → (Nat → Int) → Int → Int), SpecOk Tryz.prog 111 (specK [] (FwdO wt wp k)) ∧ ∀ d l b p, (wt d l b p).size ≤ Z ∧ p ≤ wp d l b p ∧ wp d l b p ≤ p + A) :
    ∃ (wt : Int → Nat → (Nat → Int) → Int → ByteArray) (wp : Int → Nat → (Nat → Int) → Int → Int), SpecOk Tryz.prog 111 (specK [] (FwdO wt wp (k + 1))) ∧ ∀ d l b p, (wt d l b p).size ≤ 5 * (25 + Z) ∧ p ≤ wp d l b p ∧ wp d l b p ≤ p + (1 + 5 * (2 + A)) := by
  obtain ⟨wt, wp, hp, hb⟩ := h
  have hex := wd_ex hp hZ hA0 hA hb hk
  refine ⟨fun d l b p => Classical.choose (hex d l b p), fun d l b p => Classical.choose (Classical.choose_spec (hex d l b p)), ?_, fun d l b p => ?_⟩
  · refine specK_ok (gmWd_ok hp) Tryz.func111 rfl fun avs H hr hF ho => ?_
    unfold FwdO at hF
    split at hF
    · rename_i d l c p tr m g tb
      cases hF
      simp only [ob_cons, decide_eq_true_eq] at ho
      obtain ⟨h1, h2, h3, h4, h5, h6, h7, _⟩ := ho
      have hbt := okB_it h1
      obtain ⟨Λ, hL, hG⟩ := (Classical.choose_spec (Classical.choose_spec (hex d l (itB g) p))).2.2.2 c m tr tb hbt h2 h3 h4 h5 h6 h7
      refine ⟨hpRd l c p m (itB g) tr tb, Λ, 200, rd_sim h1, hL, ⟨res_mono ?_ hG.out⟩⟩
      rintro e vs He ⟨rfl, rfl⟩
      exact ⟨rfl, .cons (ABeq.refl _) (.cons (ABeq.row fun j hj => (okB_get h1 hj).1.symm) .nil)⟩
    · cases hF
  · have := Classical.choose_spec (Classical.choose_spec (hex d l b p))
    exact ⟨this.1, this.2.1, this.2.2.1⟩
theorem wd_none : SpecOk Tryz.prog 111 (specK [] (FwdO (fun _ _ _ _ => ByteArray.empty) (fun _ _ _ p => p) (-1))) := by
  refine specK_ok g0_ok Tryz.func111 rfl fun avs H hr hF ho => ?_
  unfold FwdO at hF
  split at hF
  · cases hF
    simp only [ob_cons, decide_eq_true_eq] at ho
    omega
  · cases hF
theorem wd_two : ∃ (wt : Int → Nat → (Nat → Int) → Int → ByteArray) (wp : Int → Nat → (Nat → Int) → Int → Int), SpecOk Tryz.prog 111 (specK [] (FwdO wt wp 2)) ∧ ∀ d l b p, (wt d l b p).size ≤ 10000 ∧ p ≤ wp d l b p ∧ wp d l b p ≤ p + 500 := by
  have h0 : ∃ (wt : Int → Nat → (Nat → Int) → Int → ByteArray) (wp : Int → Nat → (Nat → Int) → Int → Int), SpecOk Tryz.prog 111 (specK [] (FwdO wt wp (-1))) ∧ ∀ d l b p, (wt d l b p).size ≤ 0 ∧ p ≤ wp d l b p ∧ wp d l b p ≤ p + 0 := ⟨_, _, wd_none, fun d l b p => ⟨Nat.le_refl _, Int.le_refl _, by simp⟩⟩
  have h1 := wd_next (by omega) (by omega) (by omega) (by omega) h0
  have h2 := wd_next (by omega) (by omega) (by omega) (by omega) h1
  obtain ⟨wt, wp, h3, h4⟩ := wd_next (by omega) (by omega) (by omega) (by omega) h2
  exact ⟨wt, wp, h3, fun d l b p => by have := h4 d l b p; omega⟩

end Go.Proofs.YtddhmidegldhdaaGreatDoor

/- A plotter program, drawn; DrawPlotEnd. Conditions: bytes, at most 2^21. -/
namespace Go.Proofs.YtddhmidegldhdaaGreatDoor
open Go.RowKit
set_option maxRecDepth 100000

noncomputable def wdT : Int → Nat → (Nat → Int) → Int → ByteArray := Classical.choose wd_two
noncomputable def wdP : Int → Nat → (Nat → Int) → Int → Int := Classical.choose (Classical.choose_spec wd_two)
theorem ok_wd : SpecOk Tryz.prog 111 (specK [] (FwdO wdT wdP 2)) := (Classical.choose_spec (Classical.choose_spec wd_two)).1
theorem wdP_in (d : Int) (l : Nat) (b : Nat → Int) (p : Int) : p ≤ wdP d l b p ∧ wdP d l b p ≤ p + 500 := ((Classical.choose_spec (Classical.choose_spec wd_two)).2 d l b p).2
def chP8 (k : Nat) : ByteArray := strV [Value.string (bif Nat.beq k (0 : Nat) then ByteArray.mk (Array.mk []) else bif Nat.beq k (1 : Nat) then ByteArray.mk (Array.mk [(120 : UInt8)]) else bif Nat.beq k (2 : Nat) then ByteArray.mk (Array.mk [(114 : UInt8), (50 : UInt8), (32 : UInt8), (93 : UInt8)]) else bif Nat.beq k (3 : Nat) then ByteArray.mk (Array.mk [(114 : UInt8), (48 : UInt8), (32 : UInt8), (101 : UInt8), (32 : UInt8), (93 : UInt8)]) else bif Nat.beq k (4 : Nat) then ByteArray.mk (Array.mk [(101 : UInt8), (32 : UInt8), (32 : UInt8), (101 : UInt8)]) else bif Nat.beq k (5 : Nat) then ByteArray.mk (Array.mk [(114 : UInt8), (50 : UInt8), (32 : UInt8), (101 : UInt8)]) else bif Nat.beq k (6 : Nat) then ByteArray.mk (Array.mk [(101 : UInt8), (32 : UInt8), (93 : UInt8)]) else ByteArray.mk (Array.mk [(114 : UInt8), (57 : UInt8), (32 : UInt8), (114 : UInt8), (57 : UInt8), (32 : UInt8), (114 : UInt8), (57 : UInt8), (32 : UInt8), (101 : UInt8), (32 : UInt8), (93 : UInt8), (32 : UInt8), (93 : UInt8), (32 : UInt8), (93 : UInt8)]))]
def chP4 (k : Nat) : ByteArray := strV [Value.string (bif Nat.beq k (0 : Nat) then ByteArray.mk (Array.mk [(100 : UInt8), (32 : UInt8), (114 : UInt8), (52 : UInt8), (32 : UInt8), (101 : UInt8), (32 : UInt8), (116 : UInt8), (32 : UInt8), (93 : UInt8)]) else bif Nat.beq k (1 : Nat) then ByteArray.mk (Array.mk [(100 : UInt8), (32 : UInt8), (101 : UInt8), (32 : UInt8), (110 : UInt8), (32 : UInt8), (119 : UInt8), (32 : UInt8), (115 : UInt8)]) else bif Nat.beq k (2 : Nat) then ByteArray.mk (Array.mk [(101 : UInt8), (32 : UInt8), (101 : UInt8), (32 : UInt8), (101 : UInt8), (32 : UInt8), (101 : UInt8), (32 : UInt8), (101 : UInt8), (32 : UInt8), (101 : UInt8), (32 : UInt8), (101 : UInt8), (32 : UInt8), (101 : UInt8), (32 : UInt8), (101 : UInt8), (32 : UInt8), (101 : UInt8), (32 : UInt8), (101 : UInt8), (32 : UInt8), (101 : UInt8)]) else ByteArray.mk (Array.mk [(100 : UInt8), (32 : UInt8), (114 : UInt8), (57 : UInt8), (32 : UInt8), (114 : UInt8), (57 : UInt8), (32 : UInt8), (101 : UInt8), (32 : UInt8), (93 : UInt8), (32 : UInt8), (116 : UInt8), (32 : UInt8), (93 : UInt8)]))]
theorem pm_ex (l : Nat) (b : Nat → Int) (p : Int) : ∃ (S : ByteArray) (P : Int), p ≤ P ∧ P ≤ p + 600 ∧ ∀ (c : Option Nat) (m : Nat) (tr tb : TypeId), okB m (rowB b) = true → l ≤ m → 0 ≤ p → p ≤ 2 ^ 24 → 0 < m →
    GoodQ (execF Tryz.prog (gmWd pkV wdT wdP 2 decB inD) noLam 200 Tryz.f50 [.ptr 0 0 0 0] (hpRd l c p m b tr tb) (packK 2)) (fun _ vs He => vs = [.v (.string S)] ∧ He = hpRd l c P m b tr tb) := by
  cases h0 : pkV l b p 14 == 0 with
  | true =>
    refine ⟨chP8 (pkV l b (p + 1) 8).toNat, p + 1 + 1, by omega, by omega, fun c m tr tb hb hlm q0 q1 hm => ?_⟩
    rw [treePg2, itB_row]
    exact good_needs (by simp only [ob_cons, ob_nil, and_true, decide_eq_true_eq, hb, true_and]; omega) (good_true h0 (good_needs (by simp only [ob_cons, ob_nil, and_true, decide_eq_true_eq, hb, true_and]; omega) (good_out ⟨rfl, rfl⟩)))
  | false =>
    cases h1 : pkV l b p 14 == 1 with
    | true =>
      refine ⟨chP4 (pkV l b (p + 1) 4).toNat, p + 1 + 1, by omega, by omega, fun c m tr tb hb hlm q0 q1 hm => ?_⟩
      rw [treePg2, itB_row]
      exact good_needs (by simp only [ob_cons, ob_nil, and_true, decide_eq_true_eq, hb, true_and]; omega) (good_false h0 (good_true h1 (good_needs (by simp only [ob_cons, ob_nil, and_true, decide_eq_true_eq, hb, true_and]; omega) (good_out ⟨rfl, rfl⟩))))
    | false =>
      have := wdP_in 2 l b (p + 1)
      refine ⟨wdT 2 l b (p + 1), wdP 2 l b (p + 1), by omega, by omega, fun c m tr tb hb hlm q0 q1 hm => ?_⟩
      rw [treePg2, itB_row]
      exact good_needs (by simp only [ob_cons, ob_nil, and_true, decide_eq_true_eq, hb, true_and]; omega) (good_false h0 (good_false h1 (good_needs (by simp only [ob_cons, ob_nil, and_true, decide_eq_true_eq, hb, true_and]; omega) (good_out ⟨rfl, rfl⟩))))
noncomputable def pmT (l : Nat) (b : Nat → Int) (p : Int) : ByteArray := Classical.choose (pm_ex l b p)
noncomputable def pmP (l : Nat) (b : Nat → Int) (p : Int) : Int := Classical.choose (Classical.choose_spec (pm_ex l b p))
theorem pm_is (l : Nat) (b : Nat → Int) (p : Int) : p ≤ pmP l b p ∧ pmP l b p ≤ p + 600 ∧ ∀ (c : Option Nat) (m : Nat) (tr tb : TypeId), okB m (rowB b) = true → l ≤ m → 0 ≤ p → p ≤ 2 ^ 24 → 0 < m →
    GoodQ (execF Tryz.prog (gmWd pkV wdT wdP 2 decB inD) noLam 200 Tryz.f50 [.ptr 0 0 0 0] (hpRd l c p m b tr tb) (packK 2)) (fun _ vs He => vs = [.v (.string (pmT l b p))] ∧ He = hpRd l c (pmP l b p) m b tr tb) := Classical.choose_spec (Classical.choose_spec (pm_ex l b p))
def FpmO (lt : Nat → (Nat → Int) → Int → ByteArray) (lp : Nat → (Nat → Int) → Int → Int) : List AV → List AB → Option HR
  | [.ptr 0 0 0 0], [.cells [.sl 1 1 0 0 l c, .v (.int .i64 p)] tr, .row false m 1 g tb] => some { val := .v (.string (lt l (itB g) p)), out := [.cells [.sl 1 1 0 0 l c, .v (.int .i64 (lp l (itB g) p))] tr, .row false m 1 g tb], obl := [okB m g, decide (l ≤ m), decide (0 ≤ p), decide (p ≤ 2 ^ 24), decide (0 < m)] }
  | _, _ => none
theorem ok_pm : SpecOk Tryz.prog 50 (specK [] (FpmO pmT pmP)) := by
  refine specK_ok (gmWd_ok ok_wd) Tryz.func50 rfl fun avs H hr hF ho => ?_
  unfold FpmO at hF
  split at hF
  · rename_i l c p tr m g tb
    cases hF
    simp only [ob_cons, decide_eq_true_eq] at ho
    obtain ⟨h1, h2, h3, h4, h5, _⟩ := ho
    have hb := okB_it h1
    refine ⟨hpRd l c p m (itB g) tr tb, noLam, 200, rd_sim h1, noLam' _, ⟨res_mono ?_ ((pm_is l (itB g) p).2.2 c m tr tb hb h2 h3 h4 h5).out⟩⟩
    rintro e vs He ⟨rfl, rfl⟩
    exact ⟨rfl, .cons (ABeq.refl _) (.cons (ABeq.row fun j hj => (okB_get h1 hj).1.symm) .nil)⟩
  · cases hF

def gmPDr (lt : Nat → (Nat → Int) → Int → ByteArray) (lp : Nat → (Nat → Int) → Int → Int) : Gam := ext g0 50 (specK [] (FpmO lt lp))
theorem treePDr (lt : Nat → (Nat → Int) → Int → ByteArray) (lp : Nat → (Nat → Int) → Int → Int) (m : Nat) (b : Nat → Int) : execF Tryz.prog (gmPDr lt lp) noLam 100 Tryz.f18 [.sl 0 1 0 0 m none] [.row false m 1 (rowB b) 5] (packK 1)
    = bif decide ((m : Int) > (2000 : Int)) then needs [decide ((2000 : Int) ≤ (m : Int)), decide ((m : Int) ≤ (m : Int)), okB m (rowB b), decide (Int.toNat (2000 - 0) ≤ m), decide ((0 : Nat) < m), decide ((0 : Nat) < m)] (Res.out .ret [AV.v (.string (lt (Int.toNat (2000 - 0)) (itB (rowB b)) (0 : Int)))] [AB.row false m 1 (rowB b) 5]) else needs [okB m (rowB b), decide (m ≤ m), decide ((0 : Nat) < m), decide ((0 : Nat) < m)] (Res.out .ret [AV.v (.string (lt m (itB (rowB b)) (0 : Int)))] [AB.row false m 1 (rowB b) 5]) := by kernel_rfl

theorem treePDr0 (q : Option Addr) (c : Nat) (g : Nat → List Value) : execF Tryz.prog gmPk0 noLam 100 Tryz.f18 [.v (.slice q 0 c)] [.row false 0 1 g 5] (packK 1)
    = Res.out .ret [AV.v (.string (ByteArray.mk (Array.mk [])))] [AB.row false (0 : Nat) (1 : Nat) g 5] := by kernel_rfl

noncomputable def bPDr (m : Nat) (b : Nat → Int) : ByteArray := if m = 0 then ByteArray.empty else pmT (lnB m) b 0
theorem gmPDr_ok : GamOk Tryz.prog (gmPDr pmT pmP) := ext_ok g0_ok ok_pm
theorem ok_drPlot : SpecOk Tryz.prog 18 (specR md_co (FdrO fun m b => { val := .v (.string (bPDr m b)) })) := by
  refine draw_ok Tryz.func18 rfl (fun m b h0 hm hb => ⟨_, gmPDr_ok, ?_⟩) fun q c g b => ⟨_, gmPk0_ok, ?_⟩
  · rw [treePDr, itB_row]
    have e : bPDr m b = pmT (lnB m) b 0 := by unfold bPDr; rw [if_neg (by omega)]
    rw [e]
    refine good_ln (fun e1 hc => ?_) fun e1 hc => ?_
    · rw [e1, show Int.toNat ((2000 : Int) - 0) = 2000 from rfl]
      exact ⟨by simp only [ob_cons, ob_nil, and_true, decide_eq_true_eq, hb, true_and]; omega, good_out ⟨_, rfl, rfl, Hsim.refl _⟩⟩
    · rw [e1]
      exact ⟨by simp only [ob_cons, ob_nil, and_true, decide_eq_true_eq, hb, true_and]; omega, good_out ⟨_, rfl, rfl, Hsim.refl _⟩⟩
  · rw [treePDr0]
    exact good_out ⟨_, rfl, rfl, Hsim.refl _⟩

end Go.Proofs.YtddhmidegldhdaaGreatDoor

/- The plot script, the law's tree. No conditions. -/
namespace Go.Proofs.YtddhmidegldhdaaGreatDoor
open Go.RowKit
set_option maxRecDepth 100000

def FpeS (px py pt : ByteArray → Int) (pk : ByteArray → Bool) : List Value → Option (Value × List Bool)
  | [.string s] => some (.tuple ⟨[.agg ⟨[i64 (px s), i64 (py s)]⟩, i64 (pt s), .bool (pk s)]⟩, [])
  | _ => none
def peP (s : ByteArray) : Pen := match stpQ s.data.toList with
  | some T => penQ T
  | none => pen0
def peX (s : ByteArray) : Int := (peP s).x
def peY (s : ByteArray) : Int := (peP s).y
def peT (s : ByteArray) : Int := ((peP s).t : Int)
def peK (s : ByteArray) : Bool := (stpQ s.data.toList).isSome
theorem peV_eq (s : ByteArray) : peV (stpQ s.data.toList) = .tuple ⟨[.agg ⟨[i64 (peX s), i64 (peY s)]⟩, i64 (peT s), .bool (peK s)]⟩ := by
  unfold peX peY peT peK peP
  cases stpQ s.data.toList with
  | none => rfl
  | some T => rfl
theorem FpeS_eq : FpeS peX peY peT peK = FpeO peB := by
  funext vs
  unfold FpeS FpeO peB
  split
  · rename_i s
    show some _ = some (peV (stpQ s.data.toList), [])
    rw [peV_eq]
  · rename_i h
    first
    | rfl
    | (split
       · exact absurd rfl (h _)
       · rfl)
theorem ok_psS : SpecOk Tryz.prog 20 (specV (FpeS peX peY peT peK)) := by
  rw [FpeS_eq]
  exact ok_sPe
theorem ok_pePI : SpecOk Tryz.prog 19 (specV (FpeS peX peY peT peK)) := by
  refine specV_ok (fun args w => enters 19 Tryz.f19 Tryz.func19 rfl args w) fun vs x ob hF ho w ht => ?_
  unfold FpeS at hF
  split at hF
  · rename_i s
    simp only [Option.some.injEq, Prod.mk.injEq] at hF
    obtain ⟨rfl, rfl⟩ := hF
    have := calls_pend s ht
    rw [peV_eq] at this
    refine this.mono ?_
    rintro e w' ⟨rfl, h⟩
    exact ⟨rfl, ⟨h.os, h.tape, h.output, h.size, fun k hk _ => h.block k hk (Nat.not_le.2 hk)⟩⟩
  · cases hF
def gmLEp (dt : Nat → (Nat → Int) → ByteArray) (px py pt qx qy qt : ByteArray → Int) (pk qk : ByteArray → Bool) (dc : Int → ByteArray) (p : Int → Bool) (ex : ByteArray → ByteArray) (ek : ByteArray → Bool) : Gam :=
  ext (ext (ext (ext (ext g0 18 (specR md_co (FdrO fun m b => { val := .v (.string (dt m b)) }))) 19 (specV (FpeS px py pt pk))) 20 (specV (FpeS qx qy qt qk))) 16 (specV (fDecP dc p))) 15 (specV (fExO ex ek))
theorem lawEp_h (dt : Nat → (Nat → Int) → ByteArray) (px py pt qx qy qt : ByteArray → Int) (pk qk : ByteArray → Bool) (dc : Int → ByteArray) (p : Int → Bool) (ex : ByteArray → ByteArray) (ek : ByteArray → Bool) (m : Nat) (b : Nat → Int) (u0 : _) (hu0 : (dt m (itB fun q ↦ rowB b ((0 : Nat) + q))) = u0) (u1 : _) (hu1 : [AB.row false m 1 (rowB b) 5] = u1) (u2 : _) (hu2 : (ByteArray.mk (Array.mk [(32 : UInt8)])) = u2) (u3 : _) (hu3 : (catB (ByteArray.mk (Array.mk [(112 : UInt8), (108 : UInt8), (111 : UInt8), (116 : UInt8), (32 : UInt8)])) u0) = u3) (u5 : _) (hu5 : [AV.v (.bool false)] = u5) (u6 : _) (hu6 : (9223372036854775807 : Nat) = u6) (u7 : _) (hu7 : (catB (catB (dc (px u0)) u2) (dc (py u0))) = u7) (u8 : _) (hu8 : (catB u3 (ByteArray.mk (Array.mk [(10 : UInt8)]))) = u8) (u9 : _) (hu9 : (px u0 == qx u0 && (py u0 == qy u0 && true)) = u9) (u4 : _) (hu4 : [AV.v (.bool u9)] = u4) : execF Tryz.prog (gmLEp dt px py pt qx qy qt pk qk dc p ex ek) noLam 100 Tryz.f4 [.sl 0 1 0 0 m none] [.row false m 1 (rowB b) 5] (packK 1)
    = bif decide ((m : Int) > (1048576 : Int)) then Res.out .ret [AV.v (.bool true)] u1 else needs [Nat.ble ((0 : Nat) + m) m, okB m fun q ↦ rowB b ((0 : Nat) + q), decide (m ≤ (2097152 : Nat))] (bif !pk u0 == qk u0 then bif pk u0 == qk u0 then bif pt u0 == qt u0 then Res.out .ret u4 u1 else Res.out .ret u5 u1 else Res.out .ret u5 u1 else bif pt u0 != qt u0 then bif pk u0 == qk u0 then bif pt u0 == qt u0 then Res.out .ret u4 u1 else Res.out .ret u5 u1 else Res.out .ret u5 u1 else bif !u9 then bif pk u0 == qk u0 then bif pt u0 == qt u0 then Res.out .ret u4 u1 else Res.out .ret u5 u1 else Res.out .ret u5 u1 else bif !pk u0 then bif pk u0 == qk u0 then bif pt u0 == qt u0 then Res.out .ret u4 u1 else Res.out .ret u5 u1 else Res.out .ret u5 u1 else needs [Nat.ble ((5 : Nat) + ByteArray.size u0) u6, Nat.ble (ByteArray.size u3 + (1 : Nat)) u6, ek u8, p (px u0), Nat.ble (ByteArray.size (dc (px u0)) + (1 : Nat)) u6, p (py u0), Nat.ble (ByteArray.size (catB (dc (px u0)) u2) + ByteArray.size (dc (py u0))) u6, Nat.ble (ByteArray.size u7 + (1 : Nat)) u6, p (pt u0), Nat.ble (ByteArray.size (catB u7 u2) + ByteArray.size (dc (pt u0))) u6, Nat.ble (ByteArray.size (catB (catB u7 u2) (dc (pt u0))) + (10 : Nat)) u6] (Res.out .ret [AV.v (.bool (eqB (ex u8) (catB (catB (catB u7 u2) (dc (pt u0))) (ByteArray.mk (Array.mk [(10 : UInt8), (119 : UInt8), (104 : UInt8), (101 : UInt8), (101 : UInt8), (108 : UInt8), (115 : UInt8), (32 : UInt8), (48 : UInt8), (10 : UInt8)])))))] u1)) := by
  subst hu4 hu9 hu8 hu7 hu6 hu5 hu3 hu2 hu1 hu0
  kernel_rfl
theorem lawEp (dt : Nat → (Nat → Int) → ByteArray) (px py pt qx qy qt : ByteArray → Int) (pk qk : ByteArray → Bool) (dc : Int → ByteArray) (p : Int → Bool) (ex : ByteArray → ByteArray) (ek : ByteArray → Bool) (m : Nat) (b : Nat → Int) : type_of% (lawEp_h dt px py pt qx qy qt pk qk dc p ex ek m b _ rfl _ rfl _ rfl _ rfl _ rfl _ rfl _ rfl _ rfl _ rfl _ rfl) := lawEp_h dt px py pt qx qy qt pk qk dc p ex ek m b _ rfl _ rfl _ rfl _ rfl _ rfl _ rfl _ rfl _ rfl _ rfl _ rfl

end Go.Proofs.YtddhmidegldhdaaGreatDoor

/- The plot script. Conditions: a program that reads. -/
namespace Go.Proofs.YtddhmidegldhdaaGreatDoor
open Go.RowKit
set_option maxRecDepth 100000

theorem flat_free : ∀ (n : Nat) (br : Bool) (ws : List (List UInt8)) (out T : List UInt8) (r : List (List UInt8)), flat n br ws out = some (T, r) → (∀ w ∈ ws, (10 : UInt8) ∈ w → w ∈ r) ∧ (br = false → r = []) := by
  intro n
  induction n with
  | zero => intro br ws out T r h; cases h
  | succ n ih =>
    intro br ws out T r h
    match ws with
    | [] =>
      unfold flat at h
      cases br with
      | true => cases h
      | false => cases h; exact ⟨fun w hw => (by cases hw), fun _ => rfl⟩
    | w :: ws =>
      unfold flat at h
      cases hs : isSt w with
      | true =>
        rw [hs, cond_true] at h
        cases hl : Nat.ble (out.length + w.length) 500 with
        | false => rw [hl] at h; cases h
        | true =>
          rw [hl, cond_true] at h
          obtain ⟨a, b⟩ := ih _ _ _ _ _ h
          refine ⟨fun x hx h10 => ?_, b⟩
          rcases List.mem_cons.1 hx with rfl | hx
          · exfalso
            match x, hs, h10 with
            | [c], hs, h10 =>
              rw [List.mem_singleton] at h10
              subst h10
              exact absurd hs (by decide)
          · exact a x hx h10
      | false =>
        rw [hs, cond_false] at h
        cases hc : w == [93] with
        | true =>
          rw [hc, cond_true] at h
          have hw := eq_of_beq hc
          cases hb : br && !out.isEmpty with
          | false => rw [hb] at h; cases h
          | true =>
            rw [hb] at h
            cases h
            rw [Bool.and_eq_true] at hb
            refine ⟨fun x hx h10 => ?_, fun e => ?_⟩
            · rcases List.mem_cons.1 hx with rfl | hx
              · rw [hw] at h10; exact absurd h10 (by decide)
              · exact hx
            · rw [hb.1] at e; cases e
        | false =>
          rw [hc, cond_false] at h
          cases hk : Nat.beq (loopN w) 0 with
          | true => rw [hk] at h; cases h
          | false =>
            rw [hk, cond_false] at h
            cases hf : flat n true ws [] with
            | none => rw [hf] at h; cases h
            | some x =>
              obtain ⟨body, r'⟩ := x
              rw [hf] at h
              simp only at h
              cases hl : Nat.ble (out.length + loopN w * body.length) 500 with
              | false => rw [hl] at h; cases h
              | true =>
                rw [hl, cond_true] at h
                obtain ⟨a1, _⟩ := ih _ _ _ _ _ hf
                obtain ⟨a2, b2⟩ := ih _ _ _ _ _ h
                refine ⟨fun x hx h10 => ?_, b2⟩
                rcases List.mem_cons.1 hx with rfl | hx
                · exfalso
                  obtain ⟨c, hx, h1, h2, _⟩ := loopN_ne (l := x) (fun e => by rw [e] at hk; cases hk)
                  rw [hx] at h10
                  simp only [List.mem_cons, List.not_mem_nil, or_false] at h10
                  rcases h10 with h10 | h10
                  · exact absurd h10 (by decide)
                  · rw [← h10] at h1; exact absurd h1 (by decide)
                · exact a2 x (a1 x hx h10) h10

end Go.Proofs.YtddhmidegldhdaaGreatDoor

/- DrawRingDesign: four values, whatever the bytes are. Conditions: bytes, at most 2^21. -/
namespace Go.Proofs.YtddhmidegldhdaaGreatDoor
open Go.RowKit
set_option maxRecDepth 100000

end Go.Proofs.YtddhmidegldhdaaGreatDoor

/- The ring's script, the law's tree. No conditions. -/
namespace Go.Proofs.YtddhmidegldhdaaGreatDoor
open Go.RowKit
set_option maxRecDepth 100000

end Go.Proofs.YtddhmidegldhdaaGreatDoor

/- FnExecuteRing returns true, whatever the bytes are. Conditions: bytes. -/
namespace Go.Proofs.YtddhmidegldhdaaGreatDoor
open Go.RowKit
set_option maxRecDepth 100000

theorem catB_lm (a b : List UInt8) : catB (ByteArray.mk (Array.mk a)) (ByteArray.mk (Array.mk b)) = ByteArray.mk (Array.mk (a ++ b)) := catB_mk a b
theorem decB_lm (n : Int) : decB n = ByteArray.mk (Array.mk (Lib.itoa n)) := rfl
theorem size_lm (a : List UInt8) : (ByteArray.mk (Array.mk a)).size = a.length := rfl
end Go.Proofs.YtddhmidegldhdaaGreatDoor

/- FnExecuteSet returns true, whatever the bytes are. Conditions: bytes. -/
namespace Go.Proofs.YtddhmidegldhdaaGreatDoor
open Go.RowKit
set_option maxRecDepth 100000

end Go.Proofs.YtddhmidegldhdaaGreatDoor

/- FnExecutePlot returns true, whatever the bytes are. Conditions: bytes. -/
namespace Go.Proofs.YtddhmidegldhdaaGreatDoor
open Go.RowKit
set_option maxRecDepth 100000

theorem cuC_mem {c x : UInt8} (hx : x ≠ c) : ∀ l : List UInt8, x ∈ l → ∃ w ∈ cuC c l, x ∈ w
  | [], h => by cases h
  | b :: l, h => by
    have ih := cuC_mem hx l
    unfold cuC
    by_cases hb : b = c
    · rw [if_pos hb]
      rcases List.mem_cons.1 h with h | h
      · exact absurd (h.trans hb) hx
      · obtain ⟨w, h1, h2⟩ := ih h
        exact ⟨w, List.mem_cons_of_mem _ h1, h2⟩
    · rw [if_neg hb]
      cases hc : cuC c l with
      | nil => exact absurd hc (cuC_ne _ _)
      | cons y ys =>
        simp only
        rcases List.mem_cons.1 h with h | h
        · exact ⟨_, List.mem_cons_self, by rw [h]; exact List.mem_cons_self⟩
        · obtain ⟨w, h1, h2⟩ := ih h
          rw [hc] at h1
          rcases List.mem_cons.1 h1 with h1 | h1
          · exact ⟨_, List.mem_cons_self, List.mem_cons_of_mem _ (h1 ▸ h2)⟩
          · exact ⟨w, List.mem_cons_of_mem _ h1, h2⟩
theorem stpQ_free {s T : List UInt8} (h : stpQ s = some T) : (10 : UInt8) ∉ s ∧ s.length ≤ 400 := by
  unfold stpQ at h
  split at h
  · rename_i hl
    refine ⟨fun h10 => ?_, hl⟩
    cases hf : fl false (cuC 32 s) [] with
    | none => rw [hf] at h; cases h
    | some x =>
      obtain ⟨B, r⟩ := x
      obtain ⟨w, h1, h2⟩ := cuC_mem (c := 32) (x := 10) (by decide) s h10
      obtain ⟨a, b⟩ := flat_free _ _ _ _ _ _ hf
      have := a w h1 h2
      rw [b rfl] at this
      cases this
  · cases h
def plotW : List UInt8 := [112, 108, 111, 116]
def plotL (s : List UInt8) : List UInt8 := plotW ++ 32 :: s
def plotS (s : List UInt8) : List UInt8 := plotL s ++ 10 :: []
theorem plotL_cut (s : List UInt8) : Lib.cut (plotL s) [32] = (plotW, s, true) := cut_app (by decide)
theorem plotS_lines {s : List UInt8} (h : (10 : UInt8) ∉ s) : linesQ (plotS s) = [plotL s] := by
  have h1 : (10 : UInt8) ∉ plotL s := by
    unfold plotL
    rw [List.mem_append, List.mem_cons]
    rintro (h' | h' | h')
    · exact absurd h' (by decide)
    · exact absurd h' (by decide)
    · exact h h'
  unfold linesQ
  rw [plotS, cuC_app _ _ h1, cuC]
  rfl
def SgP : CmdT := fun wd => bif wd == plotW then plotQ else fun _ _ => none
theorem sgP_plot : SgP plotW = plotQ := rfl
theorem line_plot (s : List UInt8) : LineOk SgP (plotL s) := fun r f h _ => by
  rw [plotL_cut] at h ⊢
  have e : (plotW, s, true).1 = plotW := rfl
  rw [e] at h ⊢
  have : tabF plotW = some (true, 106) := rfl
  rw [this] at h
  simp only [Option.some.injEq, Prod.mk.injEq] at h
  obtain ⟨_, rfl⟩ := h
  rw [sgP_plot]
  exact @cmd_plot
theorem plot_line {s T : List UInt8} (h : stpQ s = some T) (L : List Wh) : lineQ SgP L (plotL s) = (L, toldL [(penQ T).x, (penQ T).y, ((penQ T).t : Int)]) := by
  have e : plotQ L s = some (L, toldL [(penQ T).x, (penQ T).y, ((penQ T).t : Int)]) := by unfold plotQ; rw [h]; rfl
  have ht : tabF plotW = some (true, 106) := rfl
  unfold lineQ
  simp only [plotL_cut, ht, sgP_plot, e]
  rfl
theorem told_three (x y z : Int) : toldL [x, y, z] = Lib.itoa x ++ ([32] ++ (Lib.itoa y ++ ([32] ++ Lib.itoa z))) := by simp [toldL, Lib.join]
theorem plot_ok {s : ByteArray} {T : List UInt8} (h : stpQ s.data.toList = some T) :
    exOk SgP ⟨(plotS s.data.toList).toArray⟩ = true ∧ exB SgP ⟨(plotS s.data.toList).toArray⟩ = ByteArray.mk (Array.mk ((toldL [(penQ T).x, (penQ T).y, ((penQ T).t : Int)] ++ [10]) ++ elL 0)) := by
  obtain ⟨hfree, hsz⟩ := stpQ_free h
  have hl := plotS_lines hfree
  have hT := stpQ_all h
  have hp := pen_in T
  have n1 := itoa_short (penQ T).x (by omega) (by omega)
  have n2 := itoa_short (penQ T).y (by omega) (by omega)
  have n3 := itoa_short ((penQ T).t : Int) (by omega) (by omega)
  have hq : ∀ L, _ := fun L => plot_line h L
  have h3 := told_three (penQ T).x (penQ T).y ((penQ T).t : Int)
  have hlen : (toldL [(penQ T).x, (penQ T).y, ((penQ T).t : Int)]).length ≤ 100 := by
    rw [h3]
    simp only [List.length_append, List.length_cons, List.length_nil]
    omega
  generalize toldL [(penQ T).x, (penQ T).y, ((penQ T).t : Int)] = R at *
  have e0 : (ByteArray.mk (plotS s.data.toList).toArray).data.toList = plotS s.data.toList := rfl
  have e1 : exQ SgP [plotL s.data.toList] = ([], R ++ [10]) := by
    unfold exQ
    simp only [List.foldl_cons, List.foldl_nil, sessQ, hq, List.nil_append]
  have key : ∀ k, (exQ SgP (([plotL s.data.toList] : List (List UInt8)).take k)).1.length ≤ 12 ∧ (exQ SgP (([plotL s.data.toList] : List (List UInt8)).take k)).2.length ≤ 2000 := fun k => by
    match k with
    | 0 => exact ⟨Nat.zero_le _, Nat.zero_le _⟩
    | k + 1 =>
      rw [List.take_of_length_le (by simp), e1]
      refine ⟨Nat.zero_le _, ?_⟩
      rw [List.length_append, List.length_singleton]
      omega
  refine ⟨exOk_iff.2 ⟨?_, ?_, ?_, ?_⟩, ?_⟩
  · rw [mkS_size]
    simp only [plotS, plotL, plotW, List.length_append, List.length_cons, List.length_nil]
    omega
  · rw [e0, hl]
    intro l hl
    rw [List.mem_singleton.1 hl]
    exact line_plot _
  · rw [e0, hl]
    intro k
    exact Nat.le_trans (key k).2 (by decide)
  · rw [e0, hl]
    intro k
    exact Nat.le_trans (key k).1 (by decide)
  · unfold exB
    rw [e0, hl, e1]
    rfl

theorem gmLEp_ok : GamOk Tryz.prog (gmLEp bPDr peX peY peT peX peY peT peK peK decB (fun n => decide (-9223372036854775807 ≤ n ∧ n ≤ 9223372036854775807)) (exB SgP) (exOk SgP)) :=
  ext_ok (ext_ok (ext_ok (ext_ok (ext_ok g0_ok ok_drPlot) ok_pePI) ok_psS) ok_dgt) (ok_ex SgP)
theorem yes_ep (m : Nat) (b : Nat → Int) (_ : m ≤ 9223372036854775807) (hb : okB m (rowB b) = true) : ∃ Γ n Λ, GamOk Tryz.prog Γ ∧ (∀ cc, (Tryz.f4).body = some cc → LamOk Tryz.prog 1 Λ cc) ∧ GoodQ (execF Tryz.prog Γ Λ n Tryz.f4 [.sl 0 1 0 0 m none] [.row false m 1 (rowB b) 5] (packK 1)) SaysYes := by
  refine ⟨_, 100, noLam, gmLEp_ok, noLam' _, ?_⟩
  rw [lawEp]
  refine good_cond (fun _ => good_out rfl) fun c => ?_
  have c := of_decide_eq_false c
  have b21 : decide (m ≤ 2097152) = true := decide_eq_true (by omega)
  simp only [Nat.zero_add, itB_row]
  generalize bPDr m b = s
  simp only [hb, b21, ble_me, needs_t, needs_nil, beq_self_eq_true, bne_self_eq_false, Bool.and_self, Bool.not_true, cond_false, cond_true]
  refine good_cond (fun _ => good_out rfl) fun h => ?_
  have hk : (stpQ s.data.toList).isSome = true := by simpa [peK] using h
  obtain ⟨T, hT⟩ := Option.isSome_iff_exists.1 hk
  obtain ⟨k1, k2⟩ := plot_ok hT
  have hsz := (stpQ_free hT).2
  have hT5 := stpQ_all hT
  have hp := pen_in T
  have n1 := itoa_short (penQ T).x (by omega) (by omega)
  have n2 := itoa_short (penQ T).y (by omega) (by omega)
  have n3 := itoa_short ((penQ T).t : Int) (by omega) (by omega)
  have hP : peP s = penQ T := by unfold peP; rw [hT]
  have ex : s = ByteArray.mk (Array.mk s.data.toList) := rfl
  rw [told_three] at k2
  unfold peX peY peT
  rw [hP]
  generalize s.data.toList = S at *
  rw [ex]
  simp only [decB_lm, catB_lm, size_lm]
  have e1 : ([112, 108, 111, 116, 32] ++ S ++ [10] : List UInt8) = plotS S := by simp [plotS, plotL, plotW]
  rw [e1]
  refine good_needs ?_ (good_out ?_)
  · simp only [ob_cons, ob_nil, and_true, decide_eq_true_eq, Nat.ble_eq, List.length_append, List.length_cons, List.length_nil]
    refine ⟨by omega, by omega, k1, by omega, by omega, by omega, by omega, by omega, by omega, by omega, by omega⟩
  · rw [show exB SgP (ByteArray.mk (Array.mk (plotS S))) = _ from k2]
    have e2 : ∀ X Y Z : List UInt8, (X ++ [32] ++ Y ++ [32] ++ Z ++ [10, 119, 104, 101, 101, 108, 115, 32, 48, 10] : List UInt8) = X ++ ([32] ++ (Y ++ ([32] ++ Z))) ++ [10] ++ elL 0 := fun X Y Z => by
      have z : Lib.itoa 0 = [48] := by
        rw [Lib.itoa, if_neg (by omega), Lib.decDigits_one (by decide)]
        rfl
      rw [show elL 0 = [119, 104, 101, 101, 108, 115, 32] ++ (Lib.itoa 0 ++ [10]) from rfl, z]
      simp
    rw [e2]
    exact congrArg (fun x => [AV.v (.bool x)]) (eqB_self _)

end Go.Proofs.YtddhmidegldhdaaGreatDoor

/- A program's end is told: FnExecutePlot returns true, and its arguments read as before. Conditions: the tables, as the row lists them; tied by the card. -/
namespace Go.Proofs.YtddhmidegldhdaaGreatDoor
open Go.ChangeShapes Go.WideShapes Go.ChangeAt Go.RowKit

set_option maxRecDepth 100000
theorem exp_lifted (os : Os) (started : os.Started) (H : Type) (enc : TypeId × Value → H) :
    ReturnsInHanded {} Tryz.checked os 4 .any (fun w args => (Rows.fnExecutePlotSpec.pre enc Tryz.prog Tryz.f4 Rows.fnExecutePlotRow.domain false w args ∧ laidMetH Tryz.prog Rows.fnExecutePlotRow.laid w) ∧ sizedMet enc Tryz.prog Tryz.f4 (OpenSpec.ofChange Rows.fnExecutePlotSpec) false w args)
      (Rows.fnExecutePlotSpec.post enc Tryz.prog Tryz.f4 false true false false) := by
  refine wrapS (C := Tryz.checked) (X := fun w _ => laidMetH Tryz.prog Rows.fnExecutePlotRow.laid w) (fun _ _ _ hh h => h.of_heap hh) own started (by kernel_rfl) Tryz.func4
    (ChangeSpec.witness_at (enc := enc) (C := Tryz.checked) (os := os) (X := fun w _ => laidMetH Tryz.prog Rows.fnExecutePlotRow.laid w) false (laidH os) #[.slice none 0 0] 8 rfl (by kernel_rfl) (by kernel_rfl) (by kernel_rfl) (by kernel_rfl) (by kernel_rfl) (laidH_met os _)) ?_
  intro W base args ds gs before hval hW hL hsh
  exact contractB (spec := Rows.fnExecutePlotSpec) Tryz.func4 rfl rfl rfl (fun _ _ => rfl) (fun m b hm hb => yes_ep m b hm hb) H enc W base args ds gs before hval hW (laid_tab hL hsh)

set_option maxRecDepth 100000 in
theorem exp_f1 : Rows.fnExecutePlotRow.wf (OpenSpec.ofChange Rows.fnExecutePlotSpec) = true := by kernel_rfl
set_option maxRecDepth 100000 in
theorem exp_f2 : (Rows.fnExecutePlotRow.inPlace == Tryz.prog.inPlace 4) = true := by kernel_rfl
set_option maxRecDepth 100000 in
theorem exp_f3 : (Rows.fnExecutePlotRow.unfollowed == Tryz.prog.unfollowed 4) = true := by kernel_rfl
set_option maxRecDepth 100000 in
theorem exp_f4 : (Rows.fnExecutePlotRow.recurses == Tryz.prog.recurses 4) = true := by kernel_rfl
set_option maxRecDepth 100000 in
theorem exp_f5 : (Rows.fnExecutePlotRow.named == Tryz.prog.varsNamed 4) = true := by kernel_rfl
set_option maxRecDepth 100000 in
theorem exp_f6 : Tryz.prog.funcNamed Rows.fnExecutePlotRow.func = some 4 := by kernel_rfl
theorem exp_f7 : (Rows.fnExecutePlotRow.lifted == Tryz.prog.liftsFinal) = true := jfG
theorem exp_f8 : (Tryz.prog.make == some Rows.fnExecutePlotRow.make) = true := jfH
theorem exp_f9 : (Rows.fnExecutePlotRow.plainKeys == Tryz.prog.plainKeys) = true := jfI
set_option maxRecDepth 100000 in
theorem exp_joined : joinedFacts Tryz.prog 4 Tryz.f4 Rows.fnExecutePlotSpec Rows.fnExecutePlotRow = true := by
  unfold joinedFacts
  rw [jfA, jfB, jfC, jfD, jfE, jfF, exp_f1, exp_f2, exp_f3, exp_f4, exp_f5, exp_f7, exp_f8, exp_f9]
  kernel_rfl

theorem exp_said : Rows.FnExecutePlotSaid :=
  OpenClaim.holds_of_wide 4 Tryz.f4 rfl rfl rfl rfl rfl rfl rfl ⟨rfl, rfl, rfl, rfl, rfl⟩ rfl rfl rfl rfl rfl exp_f6 Tryz.func4 exp_joined
    (of_decide_eq_true (by kernel_rfl)) (by unfold Func.isWrapper; first | (rw [if_pos (by decide +kernel)]; kernel_rfl) | (rw [if_neg (by decide +kernel)]; exact ⟨rfl, rfl⟩))
    (fun os started H enc _ => exp_lifted os started H enc)

set_option maxRecDepth 100000 in
theorem exp_w : Rows.fnExecutePlotRow.wfByText (OpenSpec.ofChange Rows.fnExecutePlotSpec) = true := by kernel_rfl
set_option maxRecDepth 100000 in
theorem exp_m : Tryz.prog.mainIs = some (true, "3d31fffe0e7f2f3809f8f5b05f0aaa9165427e1982440e4b7557c38c542767c8".toList) := by kernel_rfl
set_option maxRecDepth 100000 in
theorem exp_lk : true = Tryz.prog.looks [] := by kernel_rfl
set_option maxRecDepth 100000 in
theorem exp_st : Tryz.prog.wantsStandIn 22 = false := by kernel_rfl
set_option maxRecDepth 100000 in
theorem exp_g : false = Rows.fnExecutePlotRow.goesBy Tryz.prog := by kernel_rfl
theorem exp_holds : Rows.FnExecutePlotCardSaid :=
  Claim7.holds_tied_plain_at .later [] [.data, .data, .data, .data, .handle, .sentinel, .sentinel, .pinned] true (true, "3d31fffe0e7f2f3809f8f5b05f0aaa9165427e1982440e4b7557c38c542767c8") true
    exp_said (fun _ h => by cases h) exp_w (fun _ h => by cases h) fnExecutePlot_row_tie rfl ⟨rfl, rfl⟩ exp_m rfl
    (fun f fn hf hfn => by
      obtain rfl : f = 4 := (Option.some.inj (exp_f6.symm.trans hf)).symm
      obtain rfl : fn = Tryz.f4 := (Option.some.inj (Tryz.func4.symm.trans hfn)).symm
      exact ⟨exp_lk, fun j t ht => by
        rw [Tryz.params4] at ht
        have h3 : t = 22 := by
          rcases j with _ | j
          · simpa using ht.symm
          · simp at ht
        subst h3
        exact exp_st⟩)
    exp_g
#print axioms exp_holds

end Go.Proofs.YtddhmidegldhdaaGreatDoor
