/- A law on a list of wheels and another one. No conditions. -/
import Derived.Test.YtnlfdcjpeoafhaaZA0
import Derived.Test.YtnlfdcjpeoafhaaZA1
import Derived.Test.YtnlfdcjpeoafhaaZA2
import Derived.Test.YtnlfdcjpeoafhaaZA3
import Derived.Test.YtnlfdcjpeoafhaaZA4
import Derived.Test.YtnlfdcjpeoafhaaRows
import Derived.WalkKit
import Derived.ProofKit
import Derived.OpenShut
import Derived.Carry
import Derived.Deep.Slices
/- The frame of a law with one slice as its argument: from what its run comes to to the given statement. Conditions: those that each theorem names. -/
namespace Go.Proofs.Ytnlfdcjpeoafhaa
open Go.ChangeShapes Go.WideShapes Go.ChangeAt Go.RowKit Go.Deep

theorem own : ownKnob Try.prog.godebug = none := by kernel_rfl
theorem laidOut : laidOutB Try.prog = true := by kernel_rfl

/-- The law is true. -/
def SaysYes : Ex → List AV → List AB → Prop := fun _ l _ => l = [.v (.bool true)]

section
variable {H : Type} {enc : TypeId × Value → H} {P : Program}
/-- The row's last step, where it is known that below the heap's old size nothing has turned. -/
theorem post_below {f : Func} {s : ChangeSpec} {apart fresh handsOn again : Bool} {W W' : World} {args : Array Value} {v : Value} {ds gs : List (DataW H)} {before pa pv : List MemPlace}
    (hW : DataW.Whole enc P f.params.toList s.vars apart W args.toList ds gs before)
    (hres : ∀ (b : Nat) (sp : Nat → Bool) (hd : Bool), DataW.TrodAll enc P W' b sp hd f.resultTypes.toList (v.resultList f.resultTypes.size) (s.fn H (ds ++ gs)).results [])
    (hargs : ∀ sp : Nat → Bool, (∀ p ∈ before, sp p.block = true) → DataW.TrodAll enc P W' 0 sp true f.params.toList args.toList (s.fn H (ds ++ gs)).args pa)
    (hvars : ∀ sp : Nat → Bool, (∀ p ∈ before, sp p.block = true) → DataW.TrodVars enc P W' sp s.vars (s.fn H (ds ++ gs)).vars pv)
    (hps : before = pa ++ pv) (hb : Below W.heap.size W W')
    (hok : ∀ (j : Nat) (t : TypeId) (r : Value), f.resultTypes[j]? = some t → (v.resultList f.resultTypes.size)[j]? = some r → Value.okWide P W' .any 0 t r) :
    s.post enc P f apart fresh handsOn again W args v W' := by
  have hlt : ∀ p ∈ before, p.block < W.heap.size := fun p hp => hW.lt p hp
  have hold : ∀ p ∈ before, (fun b => decide (b < W.heap.size)) p.block = true := fun p hp => by simpa using hlt p hp
  refine ⟨ds, gs, before, [], pa, pv, hW, hres _ _ _, hargs _ hold, hvars _ hold, World.keptBut_mono (fun p hp => ⟨hp, ?_⟩) (hb.frame (· ∈ before)), fun _ => ?_⟩
  · rw [hps, List.mem_append] at hp
    exact Or.inr hp
  · obtain ⟨_, _, _, _, _, hz, hn⟩ := hW
    refine ⟨hok, _, _, ([] ++ pa) ++ pv, ⟨[] ++ pa, pv, trodAll_append (hargs _ (fun _ _ => rfl)) (hres _ _ _), hvars _ (fun _ _ => rfl), rfl, ?_, ?_⟩, ?_⟩
    · intro b off hp
      have hin : MemPlace.cell b off ∈ before := by rw [hps]; simpa using hp
      rw [hb.frozen (hlt _ hin)]
      exact hz b off hin
    · intro ha
      have := hn ha
      rw [hps] at this
      simpa using this
    · intro p hp _
      rw [hps]
      simpa using hp

/-- A slice that came in, as the machine sees it. -/
theorem arg_row {W : World} {base s : Nat} {t e : TypeId} {v : Value} {d : DataW H} {p : List MemPlace} (ht : P.underlying t = some (.slice e)) (hc : P.cellsOf e = s) (hs : 0 < s) (hv : Value.okWide P W .any base t v)
    (h : DataW.Trod enc P W 0 (fun _ => true) true t v d p) (row : (Nat → Int) → List Value) (ok : (Nat → Int) → Prop) (hrow : ∀ f, (row f).length = s ∧ ∀ x ∈ row f, x.oneCell' = true)
    (he : ∀ n cs x, cs.length = s → DataW.trod enc P W 0 (fun _ => true) true n e cs = some x → ∃ f, ok f ∧ cs = row f) (tt : TypeId) :
    ∃ (m : Nat) (ν : Nu) (g : Nat → Nat → Int), m ≤ 9223372036854775807 ∧ (∀ j, j < m → ok (g j)) ∧ VR ν (.sl 0 s 0 0 m none) v ∧ RH (fun k => W.heap.size ≤ k) ν (fun b => ([AB.row false m s (fun j => row (g j)) tt] : List AB).getD b .gone) W ∧ ∀ i b, ν i = some b → i < 1 := by
  obtain ⟨pt, len, cap, rfl⟩ := okWide_slice ht hv
  obtain ⟨fuel, hf⟩ := h
  have empty : ∀ c, VR (fun _ => none) (.sl 0 s 0 0 0 none) (.slice pt 0 c) → ∃ (m : Nat) (ν : Nu) (g : Nat → Nat → Int), m ≤ 9223372036854775807 ∧ (∀ j, j < m → ok (g j)) ∧ VR ν (.sl 0 s 0 0 m none) (.slice pt 0 c) ∧ RH (fun k => W.heap.size ≤ k) ν (fun b => ([AB.row false m s (fun j => row (g j)) tt] : List AB).getD b .gone) W ∧ ∀ i b, ν i = some b → i < 1 := by
    intro c hvr
    refine ⟨0, fun _ => none, fun _ _ => 0, by omega, fun j hj => by omega, hvr, ⟨fun i => ?_, fun i j b b' _ _ _ h => by simp at h, fun i b _ h => by simp at h, fun i b h => by simp at h⟩, fun i b h => by simp at h⟩
    match i with
    | 0 => exact .inl ⟨rfl, rfl, rfl⟩
    | n + 1 => trivial
  rcases open_slice ht hf with ⟨h0, _⟩ | ⟨a, len', cap', m, n, D, Pl, hcs, hb, hl, hm, hmm, hx, hi⟩
  · simp only [Value.cells] at h0
    simp at h0
    obtain ⟨rfl, rfl, rfl⟩ := h0
    exact empty 0 (by simp only [VR]; exact ⟨none, 0, rfl, by simp, Nat.le_refl _, by omega⟩)
  · simp only [Value.cells] at hcs
    simp at hcs
    obtain ⟨rfl, rfl, rfl⟩ := hcs
    simp only [if_true] at hmm
    subst hmm
    unfold maxLen at hm
    by_cases hz : m = 0
    · subst hz
      have : len = 0 := by omega
      subst this
      exact empty 0 (by simp only [VR]; exact ⟨some a, 0, rfl, by simp, Nat.le_refl _, by omega⟩)
    · have cells : ∀ i, ∃ f, i < m → ok f ∧ ∀ k, k < s → W.cell? ((a.add (i * s)).add k) = (row f)[k]? := by
        intro i
        by_cases him : i < m
        · obtain ⟨cs', h1, h2⟩ := hi i him
          rw [hc] at h1
          obtain ⟨_, h3, h4⟩ := World.cells?_some h1
          obtain ⟨f, h5, h6⟩ := he n cs' _ h3 h2
          exact ⟨f, fun _ => ⟨h5, fun k hk => by rw [h4 k hk, h6]⟩⟩
        · exact ⟨fun _ => 0, fun h => absurd h him⟩
      have get : ∀ i k, i < m → k < s → ∃ x, (row (Classical.choose (cells i)))[k]? = some x := fun i k _ hk => by
        have := (hrow (Classical.choose (cells i))).1
        exact ⟨_, List.getElem?_eq_getElem (by omega)⟩
      obtain ⟨x0, hx0⟩ := get 0 0 (by omega) hs
      have c0 := ((Classical.choose_spec (cells 0)) (by omega)).2 0 hs
      rw [hx0, Nat.zero_mul] at c0
      have hspot : a.spot = none := by
        have := World.cell?_spot c0
        simpa [Addr.add] using this
      obtain ⟨bl, off, sp⟩ := a
      simp only at hspot
      subst hspot
      have e0 : ((⟨bl, off, none⟩ : Addr).add 0).add 0 = ⟨bl, off, none⟩ := by simp [Addr.add]
      rw [e0] at c0
      obtain ⟨o, ho⟩ : ∃ o, W.heap[bl]? = some o := by
        unfold World.cell? at c0
        split at c0
        · exact ⟨_, by assumption⟩
        · cases c0
      obtain ⟨l, t', fz, rfl⟩ : ∃ l t' fz, o = .cells (List.toArray l) t' fz := by
        unfold World.cell? at c0
        simp only [ho] at c0
        cases o with
        | cells c t' fz => exact ⟨c.toList, t', fz, by simp⟩
        | _ => cases c0
      refine ⟨len, fun i => if i = 0 then some ⟨bl, off, m⟩ else none, fun i => Classical.choose (cells i), by omega, fun j hj => ((Classical.choose_spec (cells j)) (by omega)).1, ?_, ⟨fun i => ?_, fun i j b b' hij hw _ h1 h2 => ?_, fun i b hw h1 => ?_, fun i b h1 => ?_⟩, fun i b h1 => ?_⟩
      · simp only [VR]
        exact ⟨_, m, rfl, by simp, hl, fun _ => ⟨_, rfl, by simp⟩⟩
      · match i with
        | 0 =>
          refine .inr ⟨⟨bl, off, m⟩, l, t', fz, rfl, ho, fun h => by simp at h, hl, fun j hj => ⟨hrow _, fun k hk => ?_⟩⟩
          have := ((Classical.choose_spec (cells j)) (by omega)).2 k hk
          rw [← this]
          have e1 : ((⟨bl, off, none⟩ : Addr).add (j * s)).add k = ⟨bl, off + (j * s + k), none⟩ := by
            rw [addr_add, addr_add, Nat.add_assoc]
          rw [e1, cell_at ho]
        | n + 1 => trivial
      · match i with
        | 0 => simp [AB.wr] at hw
        | n + 1 => simp at h1
      · match i with
        | 0 => simp [AB.wr] at hw
        | n + 1 => simp at h1
      · match i with
        | 0 =>
          simp at h1
          subst h1
          exact (Array.getElem?_eq_some_iff.1 ho).1
        | n + 1 => simp at h1
      · match i with
        | 0 => omega
        | n + 1 => simp at h1
end

/-- What a law's run comes to. -/
theorem yes_calls {Γ : Gam} (hΓ : GamOk Try.prog Γ) {Λ : Nat → Option Sum} {n : Nat} {f : FuncId} {fn : Func} {avs : List AV} {H : List AB} {ν : Nu} {vals : List Value} {w : World} (hf : Try.prog.funcs[f]? = some fn)
    (hL : ∀ c, fn.body = some c → LamOk Try.prog H.length Λ c) (h : GoodQ (execF Try.prog Γ Λ n fn avs H (packK H.length)) SaysYes) (hv : VRs ν avs vals) (hH : RH (fun k => w.heap.size ≤ k) ν (fun b => H.getD b .gone) w) (hdom : ∀ i b, ν i = some b → i < H.length) :
    Calls Try.prog f vals.toArray w fun e w' => e = .returned (.bool true) ∧ Below w.heap.size w w' := by
  refine (calls_pack hΓ mixed enters hf hL (fun k hk => hk) h.out hv hH hdom).mono ?_
  rintro e w' ⟨v, av, H', ν', rfl, hq, hvr, _, hfr, _⟩
  have : [av] = [AV.v (.bool true)] := hq
  simp only [List.cons.injEq, and_true] at this
  subst this
  simp only [VR] at hvr
  subst hvr
  exact ⟨rfl, ⟨hfr.os, hfr.tape, hfr.output, hfr.size, fun k hk => hfr.block k hk (by omega)⟩⟩

/-- The words of a row of points, or of bytes. -/
def okI (f : Nat → Int) : Prop := ∀ k, -9223372036854775808 ≤ f k ∧ f k ≤ 9223372036854775807

end Go.Proofs.Ytnlfdcjpeoafhaa

/- FnExactDesignMirror: the whole. -/
namespace Go.Proofs.Ytnlfdcjpeoafhaa
open Go.RowKit
set_option maxRecDepth 100000

theorem ble_me (n : Nat) : Nat.ble n n = true := by simp
theorem needs_nil (r : Res) : needs [] r = r := rfl
theorem needs_t (l : List Bool) (r : Res) : needs (true :: l) r = needs l r := rfl
theorem le_b {m n : Nat} (h : m ≤ n) : decide (m ≤ n) = true := decide_eq_true h
theorem sameW_self (m : Nat) (f : Nat → Nat → Int) : sameW m f f = true := chk_of fun _ _ _ _ => rfl
theorem sameW_zero (f h : Nat → Nat → Int) : sameW 0 f h = true := chk_of fun j hj => absurd hj (Nat.not_lt_zero _)
theorem itW_row (f : Nat → Nat → Int) (j : Nat) : ∀ k, k < 9 → itW (row9 f) j k = f j k := by
  intro k hk
  rcases (by omega : k = 0 ∨ k = 1 ∨ k = 2 ∨ k = 3 ∨ k = 4 ∨ k = 5 ∨ k = 6 ∨ k = 7 ∨ k = 8) with rfl | rfl | rfl | rfl | rfl | rfl | rfl | rfl | rfl <;> rfl
theorem sameW_row (m : Nat) (f : Nat → Nat → Int) : sameW m (itW (row9 f)) f = true := chk_of fun j _ k hk => itW_row f j k hk
theorem gmHE_ok : GamOk Try.prog (gmHE eachOk eachL) := ext_ok gmH_ok ok_each
theorem map_same {c d : Wh → Wh} {L : List Wh} (h : ∀ w ∈ L, c w = d w) : L.map c = L.map d := List.map_congr_left h
theorem tidyL_no {L : List Wh} (h : okT L = false) : tidyL L = [] := by
  unfold okT at h
  unfold tidyL
  cases e : tidyS L with
  | none => rfl
  | some T => rw [e] at h; cases h
theorem tidyL_len {L : List Wh} (h : okT L = true) : (tidyL L).length ≤ 12 := by
  unfold okT at h
  unfold tidyL
  cases e : tidyS L with
  | none => rw [e] at h; cases h
  | some T =>
    unfold tidyS at e
    split at e
    · split at e
      · rename_i hv
        cases e
        rw [dValid, Bool.and_eq_true] at hv
        exact of_decide_eq_true hv.1
      · cases e
    · cases e
/-- Where the lists agree, so do the tidy ones. -/
theorem each_yes {sp tn la : Int} {mir : Bool} {L M : List Wh} (hp : eachP tn la L = true) (hM : L.map (chE sp tn la mir) = M) (ht : okT M = true) : eachL sp tn la mir L = tidyL M ∧ eachOk sp tn la mir L = true := by
  subst hM
  refine ⟨?_, ?_⟩
  · rw [eachL, hp]; rfl
  · rw [eachOk, hp, ht]; rfl
theorem each_no {sp tn la : Int} {mir : Bool} {L : List Wh} (h : eachP tn la L = true → okT (L.map (chE sp tn la mir)) = false) : eachL sp tn la mir L = [] ∧ eachOk sp tn la mir L = false := by
  cases hp : eachP tn la L with
  | false => exact ⟨by rw [eachL, hp]; rfl, by rw [eachOk, hp]; rfl⟩
  | true => exact ⟨by rw [eachL, hp]; exact tidyL_no (h hp), by rw [eachOk, hp, h hp]; rfl⟩
theorem wr_w (x : Int) : IntKind.wrap IntKind.i64 (IntKind.wrap IntKind.i64 x) = IntKind.wrap IntKind.i64 x := w64_w64 x
theorem chMi_same (w : Wh) : chMi w = chE (-1) 0 0 true w := by
  have e1 : (-1 : Int) * w.s = 0 - w.s := by omega
  have e2 : (IntKind.wrap IntKind.i64 ((0 : Int) + IntKind.wrap IntKind.i64 (0 * w.s)) % 24).toNat = 0 := by rw [Int.zero_mul]; rfl
  rw [chMi, chE, e1, e2]
  rfl

theorem yes_mirror (m : Nat) (f : Nat → Nat → Int) (t : TypeId) (hm : m ≤ 9223372036854775807) : ∃ Γ, GamOk Try.prog Γ ∧ GoodQ (execF Try.prog Γ noLam 100 Try.f3 [.sl 0 9 0 0 m none] [.row false m 9 (row9 f) t] (packK 1)) SaysYes := by
  have e1 : IntKind.wrap IntKind.i64 ((1048576 : Int) - (m : Int)) = 1048576 - m := by
    rw [show IntKind.wrap IntKind.i64 ((1048576 : Int) - (m : Int)) = W ((1048576 : Int) - (m : Int)) from rfl, w64_in (by omega) (by omega)]
  have gY : GamOk Try.prog (ext (gmHE eachOk eachL) 18 (specR md_ws (FdeYMi yesMi tidyL mpMi))) := ext_ok gmHE_ok ok_deYMi
  have gN : GamOk Try.prog (ext (gmHE eachOk eachL) 18 (specR md_ws (FdeNMi yesMi))) := ext_ok gmHE_ok ok_deNMi
  by_cases hb : m ≤ 1048576
  · have c1 : decide ((1048576 : Int) - m < 0) = false := decide_eq_false (by omega)
    have b40 : decide (m ≤ 1099511627776) = true := decide_eq_true (by omega)
    have b39 : decide (m ≤ 549755813888) = true := decide_eq_true (by omega)
    have b38 : decide (m ≤ 274877906944) = true := decide_eq_true (by omega)
    have hM : (listW f m).map (chE (-1) 0 0 true) = mpMi (listW f m) := (map_same fun w _ => (chMi_same w).symm)
    cases hv : yesMi (listW f m) with
    | true =>
      refine ⟨_, gY, ?_⟩
      rw [lawYMi]
      have hv2 := hv
      rw [yesMi, Bool.and_eq_true] at hv2
      obtain ⟨hd, ht⟩ := hv2
      obtain ⟨hE, hO⟩ := each_yes (sp := -1) (tn := 0) (la := 0) (mir := true) (by rw [eachP, hd]; rfl) hM ht
      have hl := tidyL_len ht
      generalize hT : tidyL (mpMi (listW f m)) = T at hE hl
      have bT : decide (T.length ≤ 1099511627776) = true := decide_eq_true (by omega)
      have cT : decide ((1 : Int) + 9 * (T.length : Int) < 0) = false := decide_eq_false (by omega)
      simp only [row0, row9_itW, listW_itW, hv, hE, hO, hT, e1, c1, cT, bT, b40, b39, b38, allW_row, sameW_self, sameW_row, ble_me, beq_me, needs_t, needs_nil, cond_true, cond_false, Nat.zero_add, bne_self_eq_false, beq_self_eq_true, Bool.not_true]
      exact good_out rfl
    | false =>
      refine ⟨_, gN, ?_⟩
      rw [lawNMi]
      obtain ⟨hE, hO⟩ := each_no (sp := -1) (tn := 0) (la := 0) (mir := true) (L := listW f m) fun hp => by
        rw [hM]
        rw [yesMi] at hv
        rw [eachP, Bool.and_eq_true] at hp
        rw [hp.1, Bool.true_and] at hv
        exact hv
      simp only [row0, row9_itW, listW_itW, hv, hE, hO, e1, c1, b40, b39, b38, allW_row, sameW_self, sameW_zero, List.length_nil, ble_me, beq_me, needs_t, needs_nil, cond_true, cond_false, Nat.zero_add, bne_self_eq_false, beq_self_eq_true, Bool.not_false, Bool.not_true]
      exact good_out rfl
  · refine ⟨_, gN, ?_⟩
    rw [lawNMi, e1, show decide ((1048576 : Int) - m < 0) = true from decide_eq_true (by omega)]
    exact good_out rfl

end Go.Proofs.Ytnlfdcjpeoafhaa

/- FnExactDesignTurned, FnExactDesignLater: the whole. -/
namespace Go.Proofs.Ytnlfdcjpeoafhaa
open Go.RowKit
set_option maxRecDepth 100000

theorem lawYTu (ok : Int → Int → Int → Bool → List Wh → Bool) (el : Int → Int → Int → Bool → List Wh → List Wh) (yes : Int → List Wh → Bool) (ti : List Wh → List Wh) (mp : Int → List Wh → List Wh) (m : Nat) (f : Nat → Nat → Int) (t : TypeId) (x : Int) : execF Try.prog (ext (gmHE ok el) 27 (specR md_wv (FdeYTu yes ti mp))) noLam 100 Try.f6 [.sl 0 9 0 0 m none, .v (i64 x)] [.row false m 9 (row9 f) t] (packK 1)
    = bif decide (IntKind.wrap IntKind.i64 ((1048576 : Int) - (↑m : Int)) < (0 : Int)) then Res.out Ex.ret [AV.v (Value.bool true)] [AB.row false m (9 : Nat) (row9 f) t] else bif decide (IntKind.wrap IntKind.i64 ((1048576 : Int) - (↑m : Int)) < (0 : Int)) then Res.out Ex.ret [AV.v (Value.bool true)] [AB.row false m (9 : Nat) (row9 f) t] else needs [Nat.ble ((0 : Nat) + m) m, allW m fun q ↦ row9 f ((0 : Nat) + q), decide (m ≤ (549755813888 : Nat)), Nat.ble m m, allW m (row9 (itW fun q ↦ row9 f ((0 : Nat) + q))), decide (m ≤ (274877906944 : Nat)), Nat.ble ((0 : Nat) + m) m, allW m fun q ↦ row9 f ((0 : Nat) + q), decide (m ≤ (549755813888 : Nat)), Nat.ble m m, allW m (row9 (itW fun q ↦ row9 f ((0 : Nat) + q))), decide (m ≤ (274877906944 : Nat)), yes x (listW (itW (row9 (itW fun q ↦ row9 f ((0 : Nat) + q)))) m), Nat.ble ((0 : Nat) + List.length (ti (mp x (listW (itW (row9 (itW fun q ↦ row9 f ((0 : Nat) + q)))) m)))) (List.length (ti (mp x (listW (itW (row9 (itW fun q ↦ row9 f ((0 : Nat) + q)))) m)))), Nat.ble (List.length (el (1 : Int) x (0 : Int) false (listW (itW (row9 (itW fun q ↦ row9 f ((0 : Nat) + q)))) m))) (List.length (el (1 : Int) x (0 : Int) false (listW (itW (row9 (itW fun q ↦ row9 f ((0 : Nat) + q)))) m))), Nat.beq (List.length (el (1 : Int) x (0 : Int) false (listW (itW (row9 (itW fun q ↦ row9 f ((0 : Nat) + q)))) m))) (List.length (ti (mp x (listW (itW (row9 (itW fun q ↦ row9 f ((0 : Nat) + q)))) m)))), allW (List.length (ti (mp x (listW (itW (row9 (itW fun q ↦ row9 f ((0 : Nat) + q)))) m)))) fun q ↦ row9 (wfun (ti (mp x (listW (itW (row9 (itW fun q ↦ row9 f ((0 : Nat) + q)))) m)))) ((0 : Nat) + q), allW (List.length (ti (mp x (listW (itW (row9 (itW fun q ↦ row9 f ((0 : Nat) + q)))) m)))) (row9 (wfun (el (1 : Int) x (0 : Int) false (listW (itW (row9 (itW fun q ↦ row9 f ((0 : Nat) + q)))) m)))), sameW (List.length (ti (mp x (listW (itW (row9 (itW fun q ↦ row9 f ((0 : Nat) + q)))) m)))) (itW fun q ↦ row9 (wfun (ti (mp x (listW (itW (row9 (itW fun q ↦ row9 f ((0 : Nat) + q)))) m)))) ((0 : Nat) + q)) (itW (row9 (wfun (el (1 : Int) x (0 : Int) false (listW (itW (row9 (itW fun q ↦ row9 f ((0 : Nat) + q)))) m))))), decide (List.length (ti (mp x (listW (itW (row9 (itW fun q ↦ row9 f ((0 : Nat) + q)))) m))) ≤ (1099511627776 : Nat))] (bif !true == ok (1 : Int) x (0 : Int) false (listW (itW (row9 (itW fun q ↦ row9 f ((0 : Nat) + q)))) m) then Res.out Ex.ret [AV.v (Value.bool false)] [AB.row false m (9 : Nat) (row9 f) t] else needs [Nat.ble ((0 : Nat) + m) m, allW m fun q ↦ row9 f ((0 : Nat) + q), decide (m ≤ (549755813888 : Nat)), Nat.ble m m, Nat.ble m m, Nat.beq m m, allW m (row9 (itW fun q ↦ row9 f ((0 : Nat) + q))), allW m (row9 (itW fun q ↦ row9 f ((0 : Nat) + q))), sameW m (itW (row9 (itW fun q ↦ row9 f ((0 : Nat) + q)))) (itW (row9 (itW fun q ↦ row9 f ((0 : Nat) + q)))), decide (m ≤ (1099511627776 : Nat)), Nat.beq m m, allW m (row9 (itW fun q ↦ row9 f ((0 : Nat) + q))), decide (m ≤ (1099511627776 : Nat)), Nat.ble ((0 : Nat) + List.length (ti (mp x (listW (itW (row9 (itW fun q ↦ row9 f ((0 : Nat) + q)))) m)))) (List.length (ti (mp x (listW (itW (row9 (itW fun q ↦ row9 f ((0 : Nat) + q)))) m)))), Nat.ble (List.length (el (1 : Int) x (0 : Int) false (listW (itW (row9 (itW fun q ↦ row9 f ((0 : Nat) + q)))) m))) (List.length (el (1 : Int) x (0 : Int) false (listW (itW (row9 (itW fun q ↦ row9 f ((0 : Nat) + q)))) m))), Nat.beq (List.length (el (1 : Int) x (0 : Int) false (listW (itW (row9 (itW fun q ↦ row9 f ((0 : Nat) + q)))) m))) (List.length (ti (mp x (listW (itW (row9 (itW fun q ↦ row9 f ((0 : Nat) + q)))) m)))), allW (List.length (ti (mp x (listW (itW (row9 (itW fun q ↦ row9 f ((0 : Nat) + q)))) m)))) fun q ↦ row9 (wfun (ti (mp x (listW (itW (row9 (itW fun q ↦ row9 f ((0 : Nat) + q)))) m)))) ((0 : Nat) + q), allW (List.length (ti (mp x (listW (itW (row9 (itW fun q ↦ row9 f ((0 : Nat) + q)))) m)))) (row9 (wfun (el (1 : Int) x (0 : Int) false (listW (itW (row9 (itW fun q ↦ row9 f ((0 : Nat) + q)))) m)))), sameW (List.length (ti (mp x (listW (itW (row9 (itW fun q ↦ row9 f ((0 : Nat) + q)))) m)))) (itW fun q ↦ row9 (wfun (ti (mp x (listW (itW (row9 (itW fun q ↦ row9 f ((0 : Nat) + q)))) m)))) ((0 : Nat) + q)) (itW (row9 (wfun (el (1 : Int) x (0 : Int) false (listW (itW (row9 (itW fun q ↦ row9 f ((0 : Nat) + q)))) m))))), decide (List.length (ti (mp x (listW (itW (row9 (itW fun q ↦ row9 f ((0 : Nat) + q)))) m))) ≤ (1099511627776 : Nat))] (bif !true == ok (1 : Int) x (0 : Int) false (listW (itW (row9 (itW fun q ↦ row9 f ((0 : Nat) + q)))) m) then Res.out Ex.ret [AV.v (Value.bool false)] [AB.row false m (9 : Nat) (row9 f) t] else needs [Nat.beq (List.length (ti (mp x (listW (itW (row9 (itW fun q ↦ row9 f ((0 : Nat) + q)))) m)))) (List.length (ti (mp x (listW (itW (row9 (itW fun q ↦ row9 f ((0 : Nat) + q)))) m)))), Nat.beq (List.length (ti (mp x (listW (itW (row9 (itW fun q ↦ row9 f ((0 : Nat) + q)))) m)))) (List.length (ti (mp x (listW (itW (row9 (itW fun q ↦ row9 f ((0 : Nat) + q)))) m)))), allW (List.length (ti (mp x (listW (itW (row9 (itW fun q ↦ row9 f ((0 : Nat) + q)))) m)))) (row9 (wfun (ti (mp x (listW (itW (row9 (itW fun q ↦ row9 f ((0 : Nat) + q)))) m))))), decide (List.length (ti (mp x (listW (itW (row9 (itW fun q ↦ row9 f ((0 : Nat) + q)))) m))) ≤ (1099511627776 : Nat)), Nat.ble ((0 : Nat) + List.length (ti (mp x (listW (itW (row9 (itW fun q ↦ row9 f ((0 : Nat) + q)))) m)))) (List.length (ti (mp x (listW (itW (row9 (itW fun q ↦ row9 f ((0 : Nat) + q)))) m)))), allW (List.length (ti (mp x (listW (itW (row9 (itW fun q ↦ row9 f ((0 : Nat) + q)))) m)))) fun q ↦ row9 (markF (1 : Int)) ((0 : Nat) + q), sameW (List.length (ti (mp x (listW (itW (row9 (itW fun q ↦ row9 f ((0 : Nat) + q)))) m)))) (itW fun q ↦ row9 (markF (1 : Int)) ((0 : Nat) + q)) (markF (1 : Int)), decide (List.length (ti (mp x (listW (itW (row9 (itW fun q ↦ row9 f ((0 : Nat) + q)))) m))) ≤ (1099511627776 : Nat))] (bif (1 : Int) + (9 : Int) * (↑(List.length (ti (mp x (listW (itW (row9 (itW fun q ↦ row9 f ((0 : Nat) + q)))) m)))) : Int) != (1 : Int) + (9 : Int) * (↑(List.length (ti (mp x (listW (itW (row9 (itW fun q ↦ row9 f ((0 : Nat) + q)))) m)))) : Int) then Res.out Ex.ret [AV.v (Value.bool false)] [AB.row false m (9 : Nat) (row9 f) t] else needs [Nat.ble ((0 : Nat) + m) m, allW m fun q ↦ row9 f ((0 : Nat) + q), decide (m ≤ (549755813888 : Nat)), Nat.ble m m, allW m (row9 (itW fun q ↦ row9 f ((0 : Nat) + q))), decide (m ≤ (274877906944 : Nat)), yes x (listW (itW (row9 (itW fun q ↦ row9 f ((0 : Nat) + q)))) m), Nat.ble ((0 : Nat) + List.length (ti (mp x (listW (itW (row9 (itW fun q ↦ row9 f ((0 : Nat) + q)))) m)))) (List.length (ti (mp x (listW (itW (row9 (itW fun q ↦ row9 f ((0 : Nat) + q)))) m)))), Nat.ble (List.length (el (1 : Int) x (0 : Int) false (listW (itW (row9 (itW fun q ↦ row9 f ((0 : Nat) + q)))) m))) (List.length (el (1 : Int) x (0 : Int) false (listW (itW (row9 (itW fun q ↦ row9 f ((0 : Nat) + q)))) m))), Nat.beq (List.length (el (1 : Int) x (0 : Int) false (listW (itW (row9 (itW fun q ↦ row9 f ((0 : Nat) + q)))) m))) (List.length (ti (mp x (listW (itW (row9 (itW fun q ↦ row9 f ((0 : Nat) + q)))) m)))), allW (List.length (ti (mp x (listW (itW (row9 (itW fun q ↦ row9 f ((0 : Nat) + q)))) m)))) fun q ↦ row9 (wfun (ti (mp x (listW (itW (row9 (itW fun q ↦ row9 f ((0 : Nat) + q)))) m)))) ((0 : Nat) + q), allW (List.length (ti (mp x (listW (itW (row9 (itW fun q ↦ row9 f ((0 : Nat) + q)))) m)))) (row9 (wfun (el (1 : Int) x (0 : Int) false (listW (itW (row9 (itW fun q ↦ row9 f ((0 : Nat) + q)))) m)))), sameW (List.length (ti (mp x (listW (itW (row9 (itW fun q ↦ row9 f ((0 : Nat) + q)))) m)))) (itW fun q ↦ row9 (wfun (ti (mp x (listW (itW (row9 (itW fun q ↦ row9 f ((0 : Nat) + q)))) m)))) ((0 : Nat) + q)) (itW (row9 (wfun (el (1 : Int) x (0 : Int) false (listW (itW (row9 (itW fun q ↦ row9 f ((0 : Nat) + q)))) m))))), decide (List.length (ti (mp x (listW (itW (row9 (itW fun q ↦ row9 f ((0 : Nat) + q)))) m))) ≤ (1099511627776 : Nat))] (bif !true == ok (1 : Int) x (0 : Int) false (listW (itW (row9 (itW fun q ↦ row9 f ((0 : Nat) + q)))) m) then Res.out Ex.ret [AV.v (Value.bool false)] [AB.row false m (9 : Nat) (row9 f) t] else needs [Nat.ble ((0 : Nat) + List.length (ti (mp x (listW (itW (row9 (itW fun q ↦ row9 f ((0 : Nat) + q)))) m)))) (List.length (ti (mp x (listW (itW (row9 (itW fun q ↦ row9 f ((0 : Nat) + q)))) m)))), allW (List.length (ti (mp x (listW (itW (row9 (itW fun q ↦ row9 f ((0 : Nat) + q)))) m)))) fun q ↦ row9 (markF (1 : Int)) ((0 : Nat) + q), sameW (List.length (ti (mp x (listW (itW (row9 (itW fun q ↦ row9 f ((0 : Nat) + q)))) m)))) (itW fun q ↦ row9 (markF (1 : Int)) ((0 : Nat) + q)) (markF (1 : Int)), decide (List.length (ti (mp x (listW (itW (row9 (itW fun q ↦ row9 f ((0 : Nat) + q)))) m))) ≤ (1099511627776 : Nat))] (bif (1 : Int) + (9 : Int) * (↑(List.length (ti (mp x (listW (itW (row9 (itW fun q ↦ row9 f ((0 : Nat) + q)))) m)))) : Int) != (1 : Int) + (9 : Int) * (↑(List.length (ti (mp x (listW (itW (row9 (itW fun q ↦ row9 f ((0 : Nat) + q)))) m)))) : Int) then Res.out Ex.ret [AV.v (Value.bool false)] [AB.row false m (9 : Nat) (row9 f) t] else Res.out Ex.ret [AV.v (Value.bool true)] [AB.row false m (9 : Nat) (row9 f) t]))))) := by kernel_rfl

theorem lawNTu (ok : Int → Int → Int → Bool → List Wh → Bool) (el : Int → Int → Int → Bool → List Wh → List Wh) (yes : Int → List Wh → Bool) (m : Nat) (f : Nat → Nat → Int) (t : TypeId) (x : Int) : execF Try.prog (ext (gmHE ok el) 27 (specR md_wv (FdeNTu yes))) noLam 100 Try.f6 [.sl 0 9 0 0 m none, .v (i64 x)] [.row false m 9 (row9 f) t] (packK 1)
    = bif decide (IntKind.wrap IntKind.i64 ((1048576 : Int) - (↑m : Int)) < (0 : Int)) then Res.out Ex.ret [AV.v (Value.bool true)] [AB.row false m (9 : Nat) (row9 f) t] else bif decide (IntKind.wrap IntKind.i64 ((1048576 : Int) - (↑m : Int)) < (0 : Int)) then Res.out Ex.ret [AV.v (Value.bool true)] [AB.row false m (9 : Nat) (row9 f) t] else needs [Nat.ble ((0 : Nat) + m) m, allW m fun q ↦ row9 f ((0 : Nat) + q), decide (m ≤ (549755813888 : Nat)), Nat.ble m m, allW m (row9 (itW fun q ↦ row9 f ((0 : Nat) + q))), decide (m ≤ (274877906944 : Nat)), Nat.ble ((0 : Nat) + m) m, allW m fun q ↦ row9 f ((0 : Nat) + q), decide (m ≤ (549755813888 : Nat)), Nat.ble m m, allW m (row9 (itW fun q ↦ row9 f ((0 : Nat) + q))), decide (m ≤ (274877906944 : Nat)), !yes x (listW (itW (row9 (itW fun q ↦ row9 f ((0 : Nat) + q)))) m), Nat.ble (List.length (el (1 : Int) x (0 : Int) false (listW (itW (row9 (itW fun q ↦ row9 f ((0 : Nat) + q)))) m))) (List.length (el (1 : Int) x (0 : Int) false (listW (itW (row9 (itW fun q ↦ row9 f ((0 : Nat) + q)))) m))), Nat.beq (List.length (el (1 : Int) x (0 : Int) false (listW (itW (row9 (itW fun q ↦ row9 f ((0 : Nat) + q)))) m))) (0 : Nat), sameW (0 : Nat) (itW fun x ↦ []) (itW (row9 (wfun (el (1 : Int) x (0 : Int) false (listW (itW (row9 (itW fun q ↦ row9 f ((0 : Nat) + q)))) m)))))] (bif !false == ok (1 : Int) x (0 : Int) false (listW (itW (row9 (itW fun q ↦ row9 f ((0 : Nat) + q)))) m) then Res.out Ex.ret [AV.v (Value.bool false)] [AB.row false m (9 : Nat) (row9 f) t] else needs [Nat.ble ((0 : Nat) + m) m, allW m fun q ↦ row9 f ((0 : Nat) + q), decide (m ≤ (549755813888 : Nat)), Nat.ble m m, Nat.ble m m, Nat.beq m m, allW m (row9 (itW fun q ↦ row9 f ((0 : Nat) + q))), allW m (row9 (itW fun q ↦ row9 f ((0 : Nat) + q))), sameW m (itW (row9 (itW fun q ↦ row9 f ((0 : Nat) + q)))) (itW (row9 (itW fun q ↦ row9 f ((0 : Nat) + q)))), decide (m ≤ (1099511627776 : Nat)), Nat.beq m m, allW m (row9 (itW fun q ↦ row9 f ((0 : Nat) + q))), decide (m ≤ (1099511627776 : Nat)), Nat.ble (List.length (el (1 : Int) x (0 : Int) false (listW (itW (row9 (itW fun q ↦ row9 f ((0 : Nat) + q)))) m))) (List.length (el (1 : Int) x (0 : Int) false (listW (itW (row9 (itW fun q ↦ row9 f ((0 : Nat) + q)))) m))), Nat.beq (List.length (el (1 : Int) x (0 : Int) false (listW (itW (row9 (itW fun q ↦ row9 f ((0 : Nat) + q)))) m))) (0 : Nat), sameW (0 : Nat) (itW fun x ↦ []) (itW (row9 (wfun (el (1 : Int) x (0 : Int) false (listW (itW (row9 (itW fun q ↦ row9 f ((0 : Nat) + q)))) m)))))] (bif !false == ok (1 : Int) x (0 : Int) false (listW (itW (row9 (itW fun q ↦ row9 f ((0 : Nat) + q)))) m) then Res.out Ex.ret [AV.v (Value.bool false)] [AB.row false m (9 : Nat) (row9 f) t] else needs [sameW (0 : Nat) (itW fun x ↦ []) (markF (1 : Int)), Nat.ble ((0 : Nat) + m) m, allW m fun q ↦ row9 f ((0 : Nat) + q), decide (m ≤ (549755813888 : Nat)), Nat.ble m m, allW m (row9 (itW fun q ↦ row9 f ((0 : Nat) + q))), decide (m ≤ (274877906944 : Nat)), !yes x (listW (itW (row9 (itW fun q ↦ row9 f ((0 : Nat) + q)))) m), Nat.ble (List.length (el (1 : Int) x (0 : Int) false (listW (itW (row9 (itW fun q ↦ row9 f ((0 : Nat) + q)))) m))) (List.length (el (1 : Int) x (0 : Int) false (listW (itW (row9 (itW fun q ↦ row9 f ((0 : Nat) + q)))) m))), Nat.beq (List.length (el (1 : Int) x (0 : Int) false (listW (itW (row9 (itW fun q ↦ row9 f ((0 : Nat) + q)))) m))) (0 : Nat), sameW (0 : Nat) (itW fun x ↦ []) (itW (row9 (wfun (el (1 : Int) x (0 : Int) false (listW (itW (row9 (itW fun q ↦ row9 f ((0 : Nat) + q)))) m)))))] (bif !false == ok (1 : Int) x (0 : Int) false (listW (itW (row9 (itW fun q ↦ row9 f ((0 : Nat) + q)))) m) then Res.out Ex.ret [AV.v (Value.bool false)] [AB.row false m (9 : Nat) (row9 f) t] else needs [sameW (0 : Nat) (itW fun x ↦ []) (markF (1 : Int))] (Res.out Ex.ret [AV.v (Value.bool true)] [AB.row false m (9 : Nat) (row9 f) t])))) := by kernel_rfl

theorem chTu_same {x : Int} (hx : inR x 0 23 = true) {w : Wh} (h1 : -1000 ≤ w.s ∧ w.s ≤ 1000) : chTu x w = chE 1 x 0 false w := by
  have hx := inR_iff.1 hx
  have e1 : IntKind.wrap IntKind.i64 (1 * w.s) = w.s := by rw [Int.one_mul, wr_in (by omega)]
  have e2 : IntKind.wrap IntKind.i64 (x + IntKind.wrap IntKind.i64 (0 * w.s)) = x := by
    rw [Int.zero_mul, wr_in (x := 0) (by omega), Int.add_zero, wr_in (by omega)]
  rw [chTu, chE, e1, e2]
  rfl
theorem yes_turned (m : Nat) (f : Nat → Nat → Int) (t : TypeId) (x : Int) (hm : m ≤ 9223372036854775807) : ∃ Γ, GamOk Try.prog Γ ∧ GoodQ (execF Try.prog Γ noLam 100 Try.f6 [.sl 0 9 0 0 m none, .v (i64 x)] [.row false m 9 (row9 f) t] (packK 1)) SaysYes := by
  have e1 : IntKind.wrap IntKind.i64 ((1048576 : Int) - (m : Int)) = 1048576 - m := by
    rw [show IntKind.wrap IntKind.i64 ((1048576 : Int) - (m : Int)) = W ((1048576 : Int) - (m : Int)) from rfl, w64_in (by omega) (by omega)]
  have gY : GamOk Try.prog (ext (gmHE eachOk eachL) 27 (specR md_wv (FdeYTu yesTu tidyL mpTu))) := ext_ok gmHE_ok ok_deYTu
  have gN : GamOk Try.prog (ext (gmHE eachOk eachL) 27 (specR md_wv (FdeNTu yesTu))) := ext_ok gmHE_ok ok_deNTu
  by_cases hb : m ≤ 1048576
  · have c1 : decide ((1048576 : Int) - m < 0) = false := decide_eq_false (by omega)
    have b40 : decide (m ≤ 1099511627776) = true := decide_eq_true (by omega)
    have b39 : decide (m ≤ 549755813888) = true := decide_eq_true (by omega)
    have b38 : decide (m ≤ 274877906944) = true := decide_eq_true (by omega)
    have hM : inR x 0 23 = true → okD (listW f m) = true → (listW f m).map (chE 1 x 0 false) = mpTu x (listW f m) := fun hx hd => (map_same fun w hw => (chTu_same hx (okD_mem hd hw).1).symm)
    cases hv : yesTu x (listW f m) with
    | true =>
      refine ⟨_, gY, ?_⟩
      rw [lawYTu]
      have hv2 := hv
      rw [yesTu, Bool.and_eq_true, Bool.and_eq_true] at hv2
      obtain ⟨hx, hd, ht⟩ := hv2
      obtain ⟨hE, hO⟩ := each_yes (sp := 1) (tn := x) (la := 0) (mir := false) (by rw [eachP, hd, hx]; rfl) (hM hx hd) ht
      have hl := tidyL_len ht
      generalize hT : tidyL (mpTu x (listW f m)) = T at hE hl
      have bT : decide (T.length ≤ 1099511627776) = true := decide_eq_true (by omega)
      have cT : decide ((1 : Int) + 9 * (T.length : Int) < 0) = false := decide_eq_false (by omega)
      simp only [row0, row9_itW, listW_itW, hv, hE, hO, hT, e1, c1, cT, bT, b40, b39, b38, allW_row, sameW_self, sameW_row, ble_me, beq_me, needs_t, needs_nil, cond_true, cond_false, Nat.zero_add, bne_self_eq_false, beq_self_eq_true, Bool.not_true]
      exact good_out rfl
    | false =>
      refine ⟨_, gN, ?_⟩
      rw [lawNTu]
      obtain ⟨hE, hO⟩ := each_no (sp := 1) (tn := x) (la := 0) (mir := false) (L := listW f m) fun hp => by
        rw [eachP, Bool.and_eq_true, Bool.and_eq_true] at hp
        rw [hM (hp.2.1) hp.1]
        rw [yesTu, hp.2.1, hp.1, Bool.true_and, Bool.true_and] at hv
        exact hv
      simp only [row0, row9_itW, listW_itW, hv, hE, hO, e1, c1, b40, b39, b38, allW_row, sameW_self, sameW_zero, List.length_nil, ble_me, beq_me, needs_t, needs_nil, cond_true, cond_false, Nat.zero_add, bne_self_eq_false, beq_self_eq_true, Bool.not_false, Bool.not_true]
      exact good_out rfl
  · refine ⟨_, gN, ?_⟩
    rw [lawNTu, e1, show decide ((1048576 : Int) - m < 0) = true from decide_eq_true (by omega)]
    exact good_out rfl

theorem lawYLa (ok : Int → Int → Int → Bool → List Wh → Bool) (el : Int → Int → Int → Bool → List Wh → List Wh) (yes : Int → List Wh → Bool) (ti : List Wh → List Wh) (mp : Int → List Wh → List Wh) (m : Nat) (f : Nat → Nat → Int) (t : TypeId) (x : Int) : execF Try.prog (ext (gmHE ok el) 25 (specR md_wv (FdeYLa yes ti mp))) noLam 100 Try.f5 [.sl 0 9 0 0 m none, .v (i64 x)] [.row false m 9 (row9 f) t] (packK 1)
    = bif decide (IntKind.wrap IntKind.i64 ((1048576 : Int) - (↑m : Int)) < (0 : Int)) then Res.out Ex.ret [AV.v (Value.bool true)] [AB.row false m (9 : Nat) (row9 f) t] else bif decide (IntKind.wrap IntKind.i64 ((1048576 : Int) - (↑m : Int)) < (0 : Int)) then Res.out Ex.ret [AV.v (Value.bool true)] [AB.row false m (9 : Nat) (row9 f) t] else needs [Nat.ble ((0 : Nat) + m) m, allW m fun q ↦ row9 f ((0 : Nat) + q), decide (m ≤ (549755813888 : Nat)), Nat.ble m m, allW m (row9 (itW fun q ↦ row9 f ((0 : Nat) + q))), decide (m ≤ (274877906944 : Nat)), Nat.ble ((0 : Nat) + m) m, allW m fun q ↦ row9 f ((0 : Nat) + q), decide (m ≤ (549755813888 : Nat)), Nat.ble m m, allW m (row9 (itW fun q ↦ row9 f ((0 : Nat) + q))), decide (m ≤ (274877906944 : Nat)), yes x (listW (itW (row9 (itW fun q ↦ row9 f ((0 : Nat) + q)))) m), Nat.ble ((0 : Nat) + List.length (ti (mp x (listW (itW (row9 (itW fun q ↦ row9 f ((0 : Nat) + q)))) m)))) (List.length (ti (mp x (listW (itW (row9 (itW fun q ↦ row9 f ((0 : Nat) + q)))) m)))), Nat.ble (List.length (el (1 : Int) (0 : Int) x false (listW (itW (row9 (itW fun q ↦ row9 f ((0 : Nat) + q)))) m))) (List.length (el (1 : Int) (0 : Int) x false (listW (itW (row9 (itW fun q ↦ row9 f ((0 : Nat) + q)))) m))), Nat.beq (List.length (el (1 : Int) (0 : Int) x false (listW (itW (row9 (itW fun q ↦ row9 f ((0 : Nat) + q)))) m))) (List.length (ti (mp x (listW (itW (row9 (itW fun q ↦ row9 f ((0 : Nat) + q)))) m)))), allW (List.length (ti (mp x (listW (itW (row9 (itW fun q ↦ row9 f ((0 : Nat) + q)))) m)))) fun q ↦ row9 (wfun (ti (mp x (listW (itW (row9 (itW fun q ↦ row9 f ((0 : Nat) + q)))) m)))) ((0 : Nat) + q), allW (List.length (ti (mp x (listW (itW (row9 (itW fun q ↦ row9 f ((0 : Nat) + q)))) m)))) (row9 (wfun (el (1 : Int) (0 : Int) x false (listW (itW (row9 (itW fun q ↦ row9 f ((0 : Nat) + q)))) m)))), sameW (List.length (ti (mp x (listW (itW (row9 (itW fun q ↦ row9 f ((0 : Nat) + q)))) m)))) (itW fun q ↦ row9 (wfun (ti (mp x (listW (itW (row9 (itW fun q ↦ row9 f ((0 : Nat) + q)))) m)))) ((0 : Nat) + q)) (itW (row9 (wfun (el (1 : Int) (0 : Int) x false (listW (itW (row9 (itW fun q ↦ row9 f ((0 : Nat) + q)))) m))))), decide (List.length (ti (mp x (listW (itW (row9 (itW fun q ↦ row9 f ((0 : Nat) + q)))) m))) ≤ (1099511627776 : Nat))] (bif !true == ok (1 : Int) (0 : Int) x false (listW (itW (row9 (itW fun q ↦ row9 f ((0 : Nat) + q)))) m) then Res.out Ex.ret [AV.v (Value.bool false)] [AB.row false m (9 : Nat) (row9 f) t] else needs [Nat.ble ((0 : Nat) + m) m, allW m fun q ↦ row9 f ((0 : Nat) + q), decide (m ≤ (549755813888 : Nat)), Nat.ble m m, Nat.ble m m, Nat.beq m m, allW m (row9 (itW fun q ↦ row9 f ((0 : Nat) + q))), allW m (row9 (itW fun q ↦ row9 f ((0 : Nat) + q))), sameW m (itW (row9 (itW fun q ↦ row9 f ((0 : Nat) + q)))) (itW (row9 (itW fun q ↦ row9 f ((0 : Nat) + q)))), decide (m ≤ (1099511627776 : Nat)), Nat.beq m m, allW m (row9 (itW fun q ↦ row9 f ((0 : Nat) + q))), decide (m ≤ (1099511627776 : Nat)), Nat.ble ((0 : Nat) + List.length (ti (mp x (listW (itW (row9 (itW fun q ↦ row9 f ((0 : Nat) + q)))) m)))) (List.length (ti (mp x (listW (itW (row9 (itW fun q ↦ row9 f ((0 : Nat) + q)))) m)))), Nat.ble (List.length (el (1 : Int) (0 : Int) x false (listW (itW (row9 (itW fun q ↦ row9 f ((0 : Nat) + q)))) m))) (List.length (el (1 : Int) (0 : Int) x false (listW (itW (row9 (itW fun q ↦ row9 f ((0 : Nat) + q)))) m))), Nat.beq (List.length (el (1 : Int) (0 : Int) x false (listW (itW (row9 (itW fun q ↦ row9 f ((0 : Nat) + q)))) m))) (List.length (ti (mp x (listW (itW (row9 (itW fun q ↦ row9 f ((0 : Nat) + q)))) m)))), allW (List.length (ti (mp x (listW (itW (row9 (itW fun q ↦ row9 f ((0 : Nat) + q)))) m)))) fun q ↦ row9 (wfun (ti (mp x (listW (itW (row9 (itW fun q ↦ row9 f ((0 : Nat) + q)))) m)))) ((0 : Nat) + q), allW (List.length (ti (mp x (listW (itW (row9 (itW fun q ↦ row9 f ((0 : Nat) + q)))) m)))) (row9 (wfun (el (1 : Int) (0 : Int) x false (listW (itW (row9 (itW fun q ↦ row9 f ((0 : Nat) + q)))) m)))), sameW (List.length (ti (mp x (listW (itW (row9 (itW fun q ↦ row9 f ((0 : Nat) + q)))) m)))) (itW fun q ↦ row9 (wfun (ti (mp x (listW (itW (row9 (itW fun q ↦ row9 f ((0 : Nat) + q)))) m)))) ((0 : Nat) + q)) (itW (row9 (wfun (el (1 : Int) (0 : Int) x false (listW (itW (row9 (itW fun q ↦ row9 f ((0 : Nat) + q)))) m))))), decide (List.length (ti (mp x (listW (itW (row9 (itW fun q ↦ row9 f ((0 : Nat) + q)))) m))) ≤ (1099511627776 : Nat))] (bif !true == ok (1 : Int) (0 : Int) x false (listW (itW (row9 (itW fun q ↦ row9 f ((0 : Nat) + q)))) m) then Res.out Ex.ret [AV.v (Value.bool false)] [AB.row false m (9 : Nat) (row9 f) t] else needs [Nat.beq (List.length (ti (mp x (listW (itW (row9 (itW fun q ↦ row9 f ((0 : Nat) + q)))) m)))) (List.length (ti (mp x (listW (itW (row9 (itW fun q ↦ row9 f ((0 : Nat) + q)))) m)))), Nat.beq (List.length (ti (mp x (listW (itW (row9 (itW fun q ↦ row9 f ((0 : Nat) + q)))) m)))) (List.length (ti (mp x (listW (itW (row9 (itW fun q ↦ row9 f ((0 : Nat) + q)))) m)))), allW (List.length (ti (mp x (listW (itW (row9 (itW fun q ↦ row9 f ((0 : Nat) + q)))) m)))) (row9 (wfun (ti (mp x (listW (itW (row9 (itW fun q ↦ row9 f ((0 : Nat) + q)))) m))))), decide (List.length (ti (mp x (listW (itW (row9 (itW fun q ↦ row9 f ((0 : Nat) + q)))) m))) ≤ (1099511627776 : Nat)), Nat.ble ((0 : Nat) + List.length (ti (mp x (listW (itW (row9 (itW fun q ↦ row9 f ((0 : Nat) + q)))) m)))) (List.length (ti (mp x (listW (itW (row9 (itW fun q ↦ row9 f ((0 : Nat) + q)))) m)))), allW (List.length (ti (mp x (listW (itW (row9 (itW fun q ↦ row9 f ((0 : Nat) + q)))) m)))) fun q ↦ row9 (markF (1 : Int)) ((0 : Nat) + q), sameW (List.length (ti (mp x (listW (itW (row9 (itW fun q ↦ row9 f ((0 : Nat) + q)))) m)))) (itW fun q ↦ row9 (markF (1 : Int)) ((0 : Nat) + q)) (markF (1 : Int)), decide (List.length (ti (mp x (listW (itW (row9 (itW fun q ↦ row9 f ((0 : Nat) + q)))) m))) ≤ (1099511627776 : Nat))] (bif (1 : Int) + (9 : Int) * (↑(List.length (ti (mp x (listW (itW (row9 (itW fun q ↦ row9 f ((0 : Nat) + q)))) m)))) : Int) != (1 : Int) + (9 : Int) * (↑(List.length (ti (mp x (listW (itW (row9 (itW fun q ↦ row9 f ((0 : Nat) + q)))) m)))) : Int) then Res.out Ex.ret [AV.v (Value.bool false)] [AB.row false m (9 : Nat) (row9 f) t] else needs [Nat.ble ((0 : Nat) + m) m, allW m fun q ↦ row9 f ((0 : Nat) + q), decide (m ≤ (549755813888 : Nat)), Nat.ble m m, allW m (row9 (itW fun q ↦ row9 f ((0 : Nat) + q))), decide (m ≤ (274877906944 : Nat)), yes x (listW (itW (row9 (itW fun q ↦ row9 f ((0 : Nat) + q)))) m), Nat.ble ((0 : Nat) + List.length (ti (mp x (listW (itW (row9 (itW fun q ↦ row9 f ((0 : Nat) + q)))) m)))) (List.length (ti (mp x (listW (itW (row9 (itW fun q ↦ row9 f ((0 : Nat) + q)))) m)))), Nat.ble (List.length (el (1 : Int) (0 : Int) x false (listW (itW (row9 (itW fun q ↦ row9 f ((0 : Nat) + q)))) m))) (List.length (el (1 : Int) (0 : Int) x false (listW (itW (row9 (itW fun q ↦ row9 f ((0 : Nat) + q)))) m))), Nat.beq (List.length (el (1 : Int) (0 : Int) x false (listW (itW (row9 (itW fun q ↦ row9 f ((0 : Nat) + q)))) m))) (List.length (ti (mp x (listW (itW (row9 (itW fun q ↦ row9 f ((0 : Nat) + q)))) m)))), allW (List.length (ti (mp x (listW (itW (row9 (itW fun q ↦ row9 f ((0 : Nat) + q)))) m)))) fun q ↦ row9 (wfun (ti (mp x (listW (itW (row9 (itW fun q ↦ row9 f ((0 : Nat) + q)))) m)))) ((0 : Nat) + q), allW (List.length (ti (mp x (listW (itW (row9 (itW fun q ↦ row9 f ((0 : Nat) + q)))) m)))) (row9 (wfun (el (1 : Int) (0 : Int) x false (listW (itW (row9 (itW fun q ↦ row9 f ((0 : Nat) + q)))) m)))), sameW (List.length (ti (mp x (listW (itW (row9 (itW fun q ↦ row9 f ((0 : Nat) + q)))) m)))) (itW fun q ↦ row9 (wfun (ti (mp x (listW (itW (row9 (itW fun q ↦ row9 f ((0 : Nat) + q)))) m)))) ((0 : Nat) + q)) (itW (row9 (wfun (el (1 : Int) (0 : Int) x false (listW (itW (row9 (itW fun q ↦ row9 f ((0 : Nat) + q)))) m))))), decide (List.length (ti (mp x (listW (itW (row9 (itW fun q ↦ row9 f ((0 : Nat) + q)))) m))) ≤ (1099511627776 : Nat))] (bif !true == ok (1 : Int) (0 : Int) x false (listW (itW (row9 (itW fun q ↦ row9 f ((0 : Nat) + q)))) m) then Res.out Ex.ret [AV.v (Value.bool false)] [AB.row false m (9 : Nat) (row9 f) t] else needs [Nat.ble ((0 : Nat) + List.length (ti (mp x (listW (itW (row9 (itW fun q ↦ row9 f ((0 : Nat) + q)))) m)))) (List.length (ti (mp x (listW (itW (row9 (itW fun q ↦ row9 f ((0 : Nat) + q)))) m)))), allW (List.length (ti (mp x (listW (itW (row9 (itW fun q ↦ row9 f ((0 : Nat) + q)))) m)))) fun q ↦ row9 (markF (1 : Int)) ((0 : Nat) + q), sameW (List.length (ti (mp x (listW (itW (row9 (itW fun q ↦ row9 f ((0 : Nat) + q)))) m)))) (itW fun q ↦ row9 (markF (1 : Int)) ((0 : Nat) + q)) (markF (1 : Int)), decide (List.length (ti (mp x (listW (itW (row9 (itW fun q ↦ row9 f ((0 : Nat) + q)))) m))) ≤ (1099511627776 : Nat))] (bif (1 : Int) + (9 : Int) * (↑(List.length (ti (mp x (listW (itW (row9 (itW fun q ↦ row9 f ((0 : Nat) + q)))) m)))) : Int) != (1 : Int) + (9 : Int) * (↑(List.length (ti (mp x (listW (itW (row9 (itW fun q ↦ row9 f ((0 : Nat) + q)))) m)))) : Int) then Res.out Ex.ret [AV.v (Value.bool false)] [AB.row false m (9 : Nat) (row9 f) t] else Res.out Ex.ret [AV.v (Value.bool true)] [AB.row false m (9 : Nat) (row9 f) t]))))) := by kernel_rfl

theorem lawNLa (ok : Int → Int → Int → Bool → List Wh → Bool) (el : Int → Int → Int → Bool → List Wh → List Wh) (yes : Int → List Wh → Bool) (m : Nat) (f : Nat → Nat → Int) (t : TypeId) (x : Int) : execF Try.prog (ext (gmHE ok el) 25 (specR md_wv (FdeNLa yes))) noLam 100 Try.f5 [.sl 0 9 0 0 m none, .v (i64 x)] [.row false m 9 (row9 f) t] (packK 1)
    = bif decide (IntKind.wrap IntKind.i64 ((1048576 : Int) - (↑m : Int)) < (0 : Int)) then Res.out Ex.ret [AV.v (Value.bool true)] [AB.row false m (9 : Nat) (row9 f) t] else bif decide (IntKind.wrap IntKind.i64 ((1048576 : Int) - (↑m : Int)) < (0 : Int)) then Res.out Ex.ret [AV.v (Value.bool true)] [AB.row false m (9 : Nat) (row9 f) t] else needs [Nat.ble ((0 : Nat) + m) m, allW m fun q ↦ row9 f ((0 : Nat) + q), decide (m ≤ (549755813888 : Nat)), Nat.ble m m, allW m (row9 (itW fun q ↦ row9 f ((0 : Nat) + q))), decide (m ≤ (274877906944 : Nat)), Nat.ble ((0 : Nat) + m) m, allW m fun q ↦ row9 f ((0 : Nat) + q), decide (m ≤ (549755813888 : Nat)), Nat.ble m m, allW m (row9 (itW fun q ↦ row9 f ((0 : Nat) + q))), decide (m ≤ (274877906944 : Nat)), !yes x (listW (itW (row9 (itW fun q ↦ row9 f ((0 : Nat) + q)))) m), Nat.ble (List.length (el (1 : Int) (0 : Int) x false (listW (itW (row9 (itW fun q ↦ row9 f ((0 : Nat) + q)))) m))) (List.length (el (1 : Int) (0 : Int) x false (listW (itW (row9 (itW fun q ↦ row9 f ((0 : Nat) + q)))) m))), Nat.beq (List.length (el (1 : Int) (0 : Int) x false (listW (itW (row9 (itW fun q ↦ row9 f ((0 : Nat) + q)))) m))) (0 : Nat), sameW (0 : Nat) (itW fun x ↦ []) (itW (row9 (wfun (el (1 : Int) (0 : Int) x false (listW (itW (row9 (itW fun q ↦ row9 f ((0 : Nat) + q)))) m)))))] (bif !false == ok (1 : Int) (0 : Int) x false (listW (itW (row9 (itW fun q ↦ row9 f ((0 : Nat) + q)))) m) then Res.out Ex.ret [AV.v (Value.bool false)] [AB.row false m (9 : Nat) (row9 f) t] else needs [Nat.ble ((0 : Nat) + m) m, allW m fun q ↦ row9 f ((0 : Nat) + q), decide (m ≤ (549755813888 : Nat)), Nat.ble m m, Nat.ble m m, Nat.beq m m, allW m (row9 (itW fun q ↦ row9 f ((0 : Nat) + q))), allW m (row9 (itW fun q ↦ row9 f ((0 : Nat) + q))), sameW m (itW (row9 (itW fun q ↦ row9 f ((0 : Nat) + q)))) (itW (row9 (itW fun q ↦ row9 f ((0 : Nat) + q)))), decide (m ≤ (1099511627776 : Nat)), Nat.beq m m, allW m (row9 (itW fun q ↦ row9 f ((0 : Nat) + q))), decide (m ≤ (1099511627776 : Nat)), Nat.ble (List.length (el (1 : Int) (0 : Int) x false (listW (itW (row9 (itW fun q ↦ row9 f ((0 : Nat) + q)))) m))) (List.length (el (1 : Int) (0 : Int) x false (listW (itW (row9 (itW fun q ↦ row9 f ((0 : Nat) + q)))) m))), Nat.beq (List.length (el (1 : Int) (0 : Int) x false (listW (itW (row9 (itW fun q ↦ row9 f ((0 : Nat) + q)))) m))) (0 : Nat), sameW (0 : Nat) (itW fun x ↦ []) (itW (row9 (wfun (el (1 : Int) (0 : Int) x false (listW (itW (row9 (itW fun q ↦ row9 f ((0 : Nat) + q)))) m)))))] (bif !false == ok (1 : Int) (0 : Int) x false (listW (itW (row9 (itW fun q ↦ row9 f ((0 : Nat) + q)))) m) then Res.out Ex.ret [AV.v (Value.bool false)] [AB.row false m (9 : Nat) (row9 f) t] else needs [sameW (0 : Nat) (itW fun x ↦ []) (markF (1 : Int)), Nat.ble ((0 : Nat) + m) m, allW m fun q ↦ row9 f ((0 : Nat) + q), decide (m ≤ (549755813888 : Nat)), Nat.ble m m, allW m (row9 (itW fun q ↦ row9 f ((0 : Nat) + q))), decide (m ≤ (274877906944 : Nat)), !yes x (listW (itW (row9 (itW fun q ↦ row9 f ((0 : Nat) + q)))) m), Nat.ble (List.length (el (1 : Int) (0 : Int) x false (listW (itW (row9 (itW fun q ↦ row9 f ((0 : Nat) + q)))) m))) (List.length (el (1 : Int) (0 : Int) x false (listW (itW (row9 (itW fun q ↦ row9 f ((0 : Nat) + q)))) m))), Nat.beq (List.length (el (1 : Int) (0 : Int) x false (listW (itW (row9 (itW fun q ↦ row9 f ((0 : Nat) + q)))) m))) (0 : Nat), sameW (0 : Nat) (itW fun x ↦ []) (itW (row9 (wfun (el (1 : Int) (0 : Int) x false (listW (itW (row9 (itW fun q ↦ row9 f ((0 : Nat) + q)))) m)))))] (bif !false == ok (1 : Int) (0 : Int) x false (listW (itW (row9 (itW fun q ↦ row9 f ((0 : Nat) + q)))) m) then Res.out Ex.ret [AV.v (Value.bool false)] [AB.row false m (9 : Nat) (row9 f) t] else needs [sameW (0 : Nat) (itW fun x ↦ []) (markF (1 : Int))] (Res.out Ex.ret [AV.v (Value.bool true)] [AB.row false m (9 : Nat) (row9 f) t])))) := by kernel_rfl

theorem chLa_same {x : Int} (hx : inR x 0 23 = true) {w : Wh} (h1 : -1000 ≤ w.s ∧ w.s ≤ 1000) : chLa x w = chE 1 0 x false w := by
  have hx := inR_iff.1 hx
  have e1 : IntKind.wrap IntKind.i64 (1 * w.s) = w.s := by rw [Int.one_mul, wr_in (by omega)]
  have e2 : IntKind.wrap IntKind.i64 (0 + IntKind.wrap IntKind.i64 (x * w.s)) = IntKind.wrap IntKind.i64 (x * w.s) := by
    rw [Int.zero_add, wr_w]
  rw [chLa, chE, e1, e2]
  rfl
theorem yes_later (m : Nat) (f : Nat → Nat → Int) (t : TypeId) (x : Int) (hm : m ≤ 9223372036854775807) : ∃ Γ, GamOk Try.prog Γ ∧ GoodQ (execF Try.prog Γ noLam 100 Try.f5 [.sl 0 9 0 0 m none, .v (i64 x)] [.row false m 9 (row9 f) t] (packK 1)) SaysYes := by
  have e1 : IntKind.wrap IntKind.i64 ((1048576 : Int) - (m : Int)) = 1048576 - m := by
    rw [show IntKind.wrap IntKind.i64 ((1048576 : Int) - (m : Int)) = W ((1048576 : Int) - (m : Int)) from rfl, w64_in (by omega) (by omega)]
  have gY : GamOk Try.prog (ext (gmHE eachOk eachL) 25 (specR md_wv (FdeYLa yesLa tidyL mpLa))) := ext_ok gmHE_ok ok_deYLa
  have gN : GamOk Try.prog (ext (gmHE eachOk eachL) 25 (specR md_wv (FdeNLa yesLa))) := ext_ok gmHE_ok ok_deNLa
  by_cases hb : m ≤ 1048576
  · have c1 : decide ((1048576 : Int) - m < 0) = false := decide_eq_false (by omega)
    have b40 : decide (m ≤ 1099511627776) = true := decide_eq_true (by omega)
    have b39 : decide (m ≤ 549755813888) = true := decide_eq_true (by omega)
    have b38 : decide (m ≤ 274877906944) = true := decide_eq_true (by omega)
    have hM : inR x 0 23 = true → okD (listW f m) = true → (listW f m).map (chE 1 0 x false) = mpLa x (listW f m) := fun hx hd => (map_same fun w hw => (chLa_same hx (okD_mem hd hw).1).symm)
    cases hv : yesLa x (listW f m) with
    | true =>
      refine ⟨_, gY, ?_⟩
      rw [lawYLa]
      have hv2 := hv
      rw [yesLa, Bool.and_eq_true, Bool.and_eq_true] at hv2
      obtain ⟨hx, hd, ht⟩ := hv2
      obtain ⟨hE, hO⟩ := each_yes (sp := 1) (tn := 0) (la := x) (mir := false) (by rw [eachP, hd, hx]; rfl) (hM hx hd) ht
      have hl := tidyL_len ht
      generalize hT : tidyL (mpLa x (listW f m)) = T at hE hl
      have bT : decide (T.length ≤ 1099511627776) = true := decide_eq_true (by omega)
      have cT : decide ((1 : Int) + 9 * (T.length : Int) < 0) = false := decide_eq_false (by omega)
      simp only [row0, row9_itW, listW_itW, hv, hE, hO, hT, e1, c1, cT, bT, b40, b39, b38, allW_row, sameW_self, sameW_row, ble_me, beq_me, needs_t, needs_nil, cond_true, cond_false, Nat.zero_add, bne_self_eq_false, beq_self_eq_true, Bool.not_true]
      exact good_out rfl
    | false =>
      refine ⟨_, gN, ?_⟩
      rw [lawNLa]
      obtain ⟨hE, hO⟩ := each_no (sp := 1) (tn := 0) (la := x) (mir := false) (L := listW f m) fun hp => by
        rw [eachP, Bool.and_eq_true, Bool.and_eq_true] at hp
        rw [hM (hp.2.2) hp.1]
        rw [yesLa, hp.2.2, hp.1, Bool.true_and, Bool.true_and] at hv
        exact hv
      simp only [row0, row9_itW, listW_itW, hv, hE, hO, e1, c1, b40, b39, b38, allW_row, sameW_self, sameW_zero, List.length_nil, ble_me, beq_me, needs_t, needs_nil, cond_true, cond_false, Nat.zero_add, bne_self_eq_false, beq_self_eq_true, Bool.not_false, Bool.not_true]
      exact good_out rfl
  · refine ⟨_, gN, ?_⟩
    rw [lawNLa, e1, show decide ((1048576 : Int) - m < 0) = true from decide_eq_true (by omega)]
    exact good_out rfl

end Go.Proofs.Ytnlfdcjpeoafhaa

/- A list of wheels that came in. No conditions. -/
namespace Go.Proofs.Ytnlfdcjpeoafhaa
open Go.ChangeShapes Go.WideShapes Go.ChangeAt Go.RowKit Go.Deep
set_option maxRecDepth 100000

section
variable {H : Type} {enc : TypeId × Value → H} {W : World}
theorem cyc_elemL (n : Nat) (cs : List Value) (x : DataW H × List MemPlace) (hl : cs.length = 8) (h : DataW.trod enc Try.prog W 0 (fun _ => true) true n 70 cs = some x) :
    ∃ f : Nat → Int, cs = [i64 (f 0), i64 (f 1), i64 (f 2), i64 (f 3), i64 (f 4), i64 (f 5), i64 (f 6), i64 (f 7)] := by
  obtain ⟨xs, n', _, _, _, hlen, hg⟩ := DataW.trod_struct Try.underlying70 h
  have h0 : DataW.trod enc Try.prog W 0 (fun _ => true) true n' 58 ((cs.drop 0).take (Try.prog.cellsOf 58)) = xs[0]? := hg 0 _ rfl
  have hx0 : xs[0]? = some (xs[0]'(by rw [hlen]; decide)) := List.getElem?_eq_getElem _
  rw [hx0] at h0
  obtain ⟨ys, n2, _, _, _, hlen2, hg2⟩ := DataW.trod_array Try.underlying58 h0
  have c44 : Try.prog.cellsOf 58 = 8 := by kernel_rfl
  have c3 : Try.prog.cellsOf 3 = 1 := by kernel_rfl
  simp only [c44, c3, List.drop_zero, Nat.mul_one, List.take_of_length_le (Nat.le_of_eq hl)] at hg2
  have each : ∀ i, i < 8 → ∃ k, (cs.drop i).take 1 = [i64 k] := by
    intro i hi
    have h1 := hg2 i hi
    have hy : ys[i]? = some (ys[i]'(by omega)) := List.getElem?_eq_getElem _
    rw [hy] at h1
    obtain ⟨k, e1, _, _⟩ := DataW.trod_int Try.underlying3 h1
    exact ⟨k, e1⟩
  match cs, hl with
  | [c0, c1, c2, c3, c4, c5, c6, c7], _ =>
    obtain ⟨k0, e0⟩ := each 0 (by omega)
    obtain ⟨k1, e1⟩ := each 1 (by omega)
    obtain ⟨k2, e2⟩ := each 2 (by omega)
    obtain ⟨k3, e3⟩ := each 3 (by omega)
    obtain ⟨k4, e4⟩ := each 4 (by omega)
    obtain ⟨k5, e5⟩ := each 5 (by omega)
    obtain ⟨k6, e6⟩ := each 6 (by omega)
    obtain ⟨k7, e7⟩ := each 7 (by omega)
    simp at e0 e1 e2 e3 e4 e5 e6 e7
    subst e0 e1 e2 e3 e4 e5 e6 e7
    exact ⟨v8 k0 k1 k2 k3 k4 k5 k6 k7, rfl⟩
theorem wheel_elem (n : Nat) (cs : List Value) (x : DataW H × List MemPlace) (hl : cs.length = 9) (h : DataW.trod enc Try.prog W 0 (fun _ => true) true n 72 cs = some x) :
    ∃ f : Nat → Int, True ∧ cs = [i64 (f 0), i64 (f 1), i64 (f 2), i64 (f 3), i64 (f 4), i64 (f 5), i64 (f 6), i64 (f 7), i64 (f 8)] := by
  obtain ⟨xs, n', _, _, _, hlen, hg⟩ := DataW.trod_struct Try.underlying72 h
  have h0 : DataW.trod enc Try.prog W 0 (fun _ => true) true n' 3 ((cs.drop 0).take (Try.prog.cellsOf 3)) = xs[0]? := hg 0 _ rfl
  have h1 : DataW.trod enc Try.prog W 0 (fun _ => true) true n' 70 ((cs.drop 1).take (Try.prog.cellsOf 70)) = xs[1]? := hg 1 _ rfl
  have c3 : Try.prog.cellsOf 3 = 1 := by kernel_rfl
  have c8 : Try.prog.cellsOf 70 = 8 := by kernel_rfl
  have hx0 : xs[0]? = some (xs[0]'(by rw [hlen]; decide)) := List.getElem?_eq_getElem _
  have hx1 : xs[1]? = some (xs[1]'(by rw [hlen]; decide)) := List.getElem?_eq_getElem _
  rw [hx0, c3] at h0
  rw [hx1, c8] at h1
  obtain ⟨k, e0, _, _⟩ := DataW.trod_int Try.underlying3 h0
  match cs, hl with
  | [c0, c1, c2, c3, c4, c5, c6, c7, c8], _ =>
    obtain ⟨f, ef⟩ := cyc_elemL _ _ _ (by simp) h1
    simp at e0 ef
    obtain ⟨rfl, rfl, rfl, rfl, rfl, rfl, rfl, rfl⟩ := ef
    subst e0
    exact ⟨whN ⟨k, ⟨f 0, f 1, f 2, f 3, f 4, f 5, f 6, f 7⟩⟩, trivial, rfl⟩
end

/-- A law over a list of wheels: what it comes to, whatever came in. -/
theorem contractW {f : FuncId} {fn : Func} {spec : ChangeSpec} (hf : Try.prog.funcs[f]? = some fn) (hp : fn.params = #[22]) (hr : fn.resultTypes = #[4]) (hvars : spec.vars = []) (hspec : ∀ (H : Type) (d : DataW H), spec.fn H [d] = { results := [.lit (.bool true)], args := [d] })
    (yes : ∀ (m : Nat) (a : Nat → Nat → Int), m ≤ 9223372036854775807 → ∃ Γ n, GamOk Try.prog Γ ∧ GoodQ (execF Try.prog Γ noLam n fn [.sl 0 9 0 0 m none] [.row false m 9 (row9 a) 67] (packK 1)) SaysYes)
    (H : Type) (enc : TypeId × Value → H) (W : World) (base : Nat) (args : Array Value) (ds gs : List (DataW H)) (before : List MemPlace)
    (hval : ∀ (j : Nat) t v, fn.params[j]? = some t → args[j]? = some v → Value.okWide Try.prog W .any base t v)
    (hW : DataW.Whole enc Try.prog fn.params.toList spec.vars false W args.toList ds gs before) :
    Calls Try.prog f args W fun e W' => ∃ v, e = .returned v ∧ spec.post enc Try.prog fn false true false false W args v W' := by
  have hW' := hW
  obtain ⟨p, q, hA0, hV, rfl, hfz, hnd⟩ := hW
  have hA : DataW.TrodAll enc Try.prog W 0 (fun _ => true) true fn.params.toList args.toList ds p := hA0
  rw [hp] at hA hval
  rw [hvars] at hV
  obtain ⟨v0, vs0, d0, ds0, p0, q0, hargs, rfl, rfl, h0, r0⟩ := trodAll_cons hA
  obtain ⟨rfl, rfl, rfl⟩ := trodAll_nil r0
  obtain rfl : args = #[v0] := by cases args; simp_all
  obtain ⟨rfl, rfl⟩ := trodVars_none hV
  clear hA0 hA r0
  obtain ⟨m, ν, g, hm, _, hvr, hRH, hdom⟩ := arg_row (H := H) Try.underlying22 (by kernel_rfl) (by omega) (hval 0 22 v0 rfl rfl) h0 (fun f => [i64 (f 0), i64 (f 1), i64 (f 2), i64 (f 3), i64 (f 4), i64 (f 5), i64 (f 6), i64 (f 7), i64 (f 8)]) (fun _ => True) (fun f => ⟨rfl, by simp [Value.oneCell']⟩) wheel_elem 67
  obtain ⟨Γ, n, hΓ, hgood⟩ := yes m g hm
  have hcall := yes_calls hΓ (n := n) (vals := [v0]) (w := W) hf (Λ := noLam) (fun c _ => noLam_ok _ _ _) hgood (by simp only [VRs, and_true]; exact hvr) hRH hdom
  refine hcall.mono fun e W' ⟨he, hb⟩ => ?_
  subst he
  have hlt : ∀ x ∈ p0, x.block < W.heap.size := fun x hx => by simpa using hW'.lt x (by simpa using hx)
  refine ⟨_, rfl, post_below (pa := p0) (pv := []) hW' ?_ ?_ ?_ (by simp) hb ?_⟩
  · intro b sp hd
    rw [hr]
    simp only [List.append_nil, hspec]
    exact trodAll_cons_mk (shut_bool Try.underlying4 _) trodAll_mk0
  · intro sp hsp
    rw [hp]
    simp only [List.append_nil, hspec]
    refine trodAll_mk1 (WideElems.Trod_stays laidOut (by kernel_rfl) (of_decide_eq_true (by kernel_rfl)) h0 (fun x hx => hb.same (hlt x hx)) fun x hx => hsp x (by simpa using hx))
  · intro sp _
    rw [hvars]
    simp only [List.append_nil, hspec]
    rfl
  · exact ok_one hr rfl (okWide_bool_mk Try.underlying4 _)

end Go.Proofs.Ytnlfdcjpeoafhaa

/- A law on a list of wheels and a whole number. No conditions. -/
namespace Go.Proofs.Ytnlfdcjpeoafhaa
open Go.ChangeShapes Go.WideShapes Go.ChangeAt Go.RowKit Go.Deep
set_option maxRecDepth 100000

/-- A law over a list of wheels and a whole number: what it comes to, whatever came in. -/
theorem contractWI {f : FuncId} {fn : Func} {spec : ChangeSpec} (hf : Try.prog.funcs[f]? = some fn) (hp : fn.params = #[22, 3]) (hr : fn.resultTypes = #[4]) (hvars : spec.vars = []) (hspec : ∀ (H : Type) (d d' : DataW H), spec.fn H [d, d'] = { results := [.lit (.bool true)], args := [d, d'] })
    (yes : ∀ (m : Nat) (a : Nat → Nat → Int) (x : Int), m ≤ 9223372036854775807 → ∃ Γ n, GamOk Try.prog Γ ∧ GoodQ (execF Try.prog Γ noLam n fn [.sl 0 9 0 0 m none, .v (i64 x)] [.row false m 9 (row9 a) 67] (packK 1)) SaysYes)
    (H : Type) (enc : TypeId × Value → H) (W : World) (base : Nat) (args : Array Value) (ds gs : List (DataW H)) (before : List MemPlace)
    (hval : ∀ (j : Nat) t v, fn.params[j]? = some t → args[j]? = some v → Value.okWide Try.prog W .any base t v)
    (hW : DataW.Whole enc Try.prog fn.params.toList spec.vars false W args.toList ds gs before) :
    Calls Try.prog f args W fun e W' => ∃ v, e = .returned v ∧ spec.post enc Try.prog fn false true false false W args v W' := by
  have hW' := hW
  obtain ⟨p, q, hA0, hV, rfl, hfz, hnd⟩ := hW
  have hA : DataW.TrodAll enc Try.prog W 0 (fun _ => true) true fn.params.toList args.toList ds p := hA0
  rw [hp] at hA hval
  rw [hvars] at hV
  obtain ⟨v0, v1, d0, d1, p0, p1, rfl, rfl, rfl, h0, h1⟩ := trodAll_two hA
  obtain ⟨rfl, rfl⟩ := trodVars_none hV
  clear hA0 hA
  obtain ⟨x, rfl, rfl, rfl, hx⟩ := open_int (H := H) Try.underlying3 (hval 1 3 v1 rfl rfl) h1
  obtain ⟨m, ν, g, hm, _, hvr, hRH, hdom⟩ := arg_row (H := H) Try.underlying22 (by kernel_rfl) (by omega) (hval 0 22 v0 rfl rfl) h0 (fun f => [i64 (f 0), i64 (f 1), i64 (f 2), i64 (f 3), i64 (f 4), i64 (f 5), i64 (f 6), i64 (f 7), i64 (f 8)]) (fun _ => True) (fun f => ⟨rfl, by simp [Value.oneCell']⟩) wheel_elem 67
  obtain ⟨Γ, n, hΓ, hgood⟩ := yes m g x hm
  have hcall := yes_calls hΓ (n := n) (vals := [v0, i64 x]) (w := W) hf (Λ := noLam) (fun c _ => noLam_ok _ _ _) hgood (by simp only [VRs, VR, and_true]; simpa only [VR] using hvr) hRH hdom
  refine hcall.mono fun e W' ⟨he, hb⟩ => ?_
  subst he
  have hlt : ∀ x ∈ p0, x.block < W.heap.size := fun x hx => by simpa using hW'.lt x (by simpa using hx)
  refine ⟨_, rfl, post_below (pa := p0) (pv := []) hW' ?_ ?_ ?_ (by simp) hb ?_⟩
  · intro b sp hd
    rw [hr]
    simp only [List.append_nil, hspec]
    exact trodAll_cons_mk (shut_bool Try.underlying4 _) trodAll_mk0
  · intro sp hsp
    rw [hp]
    simp only [List.append_nil, hspec]
    have := trodAll_mk2 (p := p0) (p' := []) (WideElems.Trod_stays laidOut (by kernel_rfl) (of_decide_eq_true (by kernel_rfl)) h0 (fun x hx => hb.same (hlt x hx)) fun x hx => hsp x (by simpa using hx)) (shut_int (P := Try.prog) (enc := enc) (w := W') (base := 0) (spare := sp) (held := true) Try.underlying3 hx)
    simpa using this
  · intro sp _
    rw [hvars]
    simp only [List.append_nil, hspec]
    rfl
  · exact ok_one hr rfl (okWide_bool_mk Try.underlying4 _)

end Go.Proofs.Ytnlfdcjpeoafhaa

/- A law on a list of wheels and another one. No conditions. -/
namespace Go.Proofs.Ytnlfdcjpeoafhaa
open Go.ChangeShapes Go.WideShapes Go.ChangeAt Go.RowKit Go.Deep
set_option maxRecDepth 100000

/-- A law over two lists of wheels: what it comes to, whatever came in. -/
theorem contractWW {f : FuncId} {fn : Func} {spec : ChangeSpec} (hf : Try.prog.funcs[f]? = some fn) (hp : fn.params = #[22, 22]) (hr : fn.resultTypes = #[4]) (hvars : spec.vars = []) (hspec : ∀ (H : Type) (d d' : DataW H), spec.fn H [d, d'] = { results := [.lit (.bool true)], args := [d, d'] })
    (yes : ∀ (m : Nat) (a : Nat → Nat → Int) (n : Nat) (b : Nat → Nat → Int), m ≤ 9223372036854775807 → n ≤ 9223372036854775807 → ∃ Γ k, GamOk Try.prog Γ ∧ GoodQ (execF Try.prog Γ noLam k fn [.sl 0 9 0 0 m none, .sl 1 9 0 0 n none] [.row false m 9 (row9 a) 67, .row false n 9 (row9 b) 67] (packK 2)) SaysYes)
    (H : Type) (enc : TypeId × Value → H) (W : World) (base : Nat) (args : Array Value) (ds gs : List (DataW H)) (before : List MemPlace)
    (hval : ∀ (j : Nat) t v, fn.params[j]? = some t → args[j]? = some v → Value.okWide Try.prog W .any base t v)
    (hW : DataW.Whole enc Try.prog fn.params.toList spec.vars false W args.toList ds gs before) :
    Calls Try.prog f args W fun e W' => ∃ v, e = .returned v ∧ spec.post enc Try.prog fn false true false false W args v W' := by
  have hW' := hW
  obtain ⟨p, q, hA0, hV, rfl, hfz, hnd⟩ := hW
  have hA : DataW.TrodAll enc Try.prog W 0 (fun _ => true) true fn.params.toList args.toList ds p := hA0
  rw [hp] at hA hval
  rw [hvars] at hV
  obtain ⟨v0, v1, d0, d1, p0, p1, rfl, rfl, rfl, h0, h1⟩ := trodAll_two hA
  obtain ⟨rfl, rfl⟩ := trodVars_none hV
  clear hA0 hA
  obtain ⟨m, ν, g, hm, _, hvr, hRH, hdom⟩ := arg_row (H := H) Try.underlying22 (by kernel_rfl) (by omega) (hval 0 22 v0 rfl rfl) h0 (fun f => [i64 (f 0), i64 (f 1), i64 (f 2), i64 (f 3), i64 (f 4), i64 (f 5), i64 (f 6), i64 (f 7), i64 (f 8)]) (fun _ => True) (fun f => ⟨rfl, by simp [Value.oneCell']⟩) wheel_elem 67
  obtain ⟨n, ν2, g2, hn, _, hvr2, hRH2, hdom2⟩ := arg_row (H := H) Try.underlying22 (by kernel_rfl) (by omega) (hval 1 22 v1 rfl rfl) h1 (fun f => [i64 (f 0), i64 (f 1), i64 (f 2), i64 (f 3), i64 (f 4), i64 (f 5), i64 (f 6), i64 (f 7), i64 (f 8)]) (fun _ => True) (fun f => ⟨rfl, by simp [Value.oneCell']⟩) wheel_elem 67
  obtain ⟨Γ, k, hΓ, hgood⟩ := yes m g n g2 hm hn
  have hb0 : ∀ i, BR (fun i => if i = 0 then ν 0 else if i = 1 then ν2 0 else none) i (([.row false m 9 (row9 g) 67, .row false n 9 (row9 g2) 67] : List AB).getD i .gone) W := by
    intro i
    match i with
    | 0 => exact hRH.br 0
    | 1 => exact hRH2.br 0
    | i + 2 => trivial
  have hw0 : ∀ i, ((([.row false m 9 (row9 g) 67, .row false n 9 (row9 g2) 67] : List AB).getD i .gone).wr = true) → False := by
    intro i hw
    match i with
    | 0 => cases hw
    | 1 => cases hw
    | i + 2 => cases hw
  have hl0 : ∀ i b, (if i = 0 then ν 0 else if i = 1 then ν2 0 else none) = some b → b.n < W.heap.size ∧ i < 2 := by
    intro i b hb
    match i with
    | 0 => exact ⟨hRH.lt 0 b (by simpa using hb), by omega⟩
    | 1 => exact ⟨hRH2.lt 0 b (by simpa using hb), by omega⟩
    | i + 2 => simp at hb
  have hcall := yes_calls hΓ (n := k) (vals := [v0, v1]) (w := W) (ν := fun i => if i = 0 then ν 0 else if i = 1 then ν2 0 else none) hf (Λ := noLam) (fun c _ => noLam_ok _ _ _) hgood
    (by
      simp only [VRs, VR, and_true] at hvr hvr2 ⊢
      exact ⟨by simpa using hvr, by simpa using hvr2⟩)
    ⟨hb0, fun i j b b' _ hw => (hw0 i hw).elim, fun i b hw => (hw0 i hw).elim, fun i b hb => (hl0 i b hb).1⟩ (fun i b hb => (hl0 i b hb).2)
  refine hcall.mono fun e W' ⟨he, hb⟩ => ?_
  subst he
  have hlt : ∀ x ∈ (p0 ++ p1), x.block < W.heap.size := fun x hx => by simpa using hW'.lt x (by simpa using hx)
  refine ⟨_, rfl, post_below (pa := (p0 ++ p1)) (pv := []) hW' ?_ ?_ ?_ (by simp) hb ?_⟩
  · intro b sp hd
    rw [hr]
    simp only [List.append_nil, hspec]
    exact trodAll_cons_mk (shut_bool Try.underlying4 _) trodAll_mk0
  · intro sp hsp
    rw [hp]
    simp only [List.append_nil, hspec]
    refine trodAll_mk2 (WideElems.Trod_stays laidOut (by kernel_rfl) (of_decide_eq_true (by kernel_rfl)) h0 (fun x hx => hb.same (hlt x (by simp [hx]))) fun x hx => hsp x (by simp [hx])) (WideElems.Trod_stays laidOut (by kernel_rfl) (of_decide_eq_true (by kernel_rfl)) h1 (fun x hx => hb.same (hlt x (by simp [hx]))) fun x hx => hsp x (by simp [hx]))
  · intro sp _
    rw [hvars]
    simp only [List.append_nil, hspec]
    rfl
  · exact ok_one hr rfl (okWide_bool_mk Try.underlying4 _)

end Go.Proofs.Ytnlfdcjpeoafhaa
