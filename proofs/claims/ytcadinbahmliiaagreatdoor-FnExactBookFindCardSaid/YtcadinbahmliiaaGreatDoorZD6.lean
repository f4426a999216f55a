/- The laws' helpers on lists of wheels: trees. Conditions: a list of wheels. -/
import Derived.Test.YtcadinbahmliiaaGreatDoorZD0
import Derived.Test.YtcadinbahmliiaaGreatDoorZD1
import Derived.Test.YtcadinbahmliiaaGreatDoorZD2
import Derived.Test.YtcadinbahmliiaaGreatDoorZD3
import Derived.Test.YtcadinbahmliiaaGreatDoorZD4
import Derived.Test.YtcadinbahmliiaaGreatDoorZD5
import Derived.Test.YtcadinbahmliiaaGreatDoorRows
import Derived.WalkKit
import Derived.ProofKit
import Derived.OpenShut
import Derived.Carry
import Derived.Deep.Slices
import Derived.Laws.Strings
/- The frame of a law with one slice as its argument: from what its run comes to to the given statement. Conditions: those that each theorem names. -/
namespace Go.Proofs.YtcadinbahmliiaaGreatDoor
open Go.ChangeShapes Go.WideShapes Go.ChangeAt Go.RowKit Go.Deep

theorem own : ownKnob Tryz.prog.godebug = none := by kernel_rfl
theorem laidOut : laidOutB Tryz.prog = true := by kernel_rfl

def SaysYes : Ex → List AV → List AB → Prop := fun _ l _ => l = [.v (.bool true)]

section
variable {H : Type} {enc : TypeId × Value → H} {P : Program}
theorem post_below {f : Func} {s : ChangeSpec} {apart fresh handsOn again : Bool} {W W' : World} {args : Array Value} {v : Value} {ds gs : List (DataW H)} {before pa pv : List MemPlace}
    (hW : DataW.Whole enc P f.params.toList s.vars apart W args.toList ds gs before)
    (hres : ∀ (b : Nat) (sp : Nat → Bool) (hd : Bool), DataW.TrodAll enc P W' b sp hd f.resultTypes.toList (v.resultList f.resultTypes.size) (s.fn H (ds ++ gs)).results [])
    (hargs : ∀ sp : Nat → Bool, (∀ p ∈ before, sp p.block = true) → DataW.TrodAll enc P W' 0 sp true f.params.toList args.toList (s.fn H (ds ++ gs)).args pa)
    (hvars : ∀ sp : Nat → Bool, (∀ p ∈ before, sp p.block = true) → DataW.TrodVars enc P W' sp s.vars (s.fn H (ds ++ gs)).vars pv)
    (hps : before = pa ++ pv) (hb : Below W.heap.size W W')
    (hok : ∀ (j : Nat) (t : TypeId) (r : Value), f.resultTypes[j]? = some t → (v.resultList f.resultTypes.size)[j]? = some r → Value.okWide P W' .any 0 t r) :
    s.post enc P f apart fresh handsOn again W args v W' := by
  have hlt : ∀ p ∈ before, p.block < W.heap.size := fun p hp => hW.lt p hp
  have hold : ∀ p ∈ before, (fun b => decide (b < W.heap.size)) p.block = true := fun p hp => by simpa using hlt p hp
  refine ⟨ds, gs, before, [], pa, pv, hW, hres _ _ _, hargs _ hold, hvars _ hold, World.keptBut_mono (fun p hp => ⟨hp, ?_⟩) (hb.frame (· ∈ before)), fun _ => ?_⟩
  · rw [hps, List.mem_append] at hp
    exact Or.inr hp
  · obtain ⟨_, _, _, _, _, hz, hn⟩ := hW
    refine ⟨hok, _, _, ([] ++ pa) ++ pv, ⟨[] ++ pa, pv, trodAll_append (hargs _ (fun _ _ => rfl)) (hres _ _ _), hvars _ (fun _ _ => rfl), rfl, ?_, ?_⟩, ?_⟩
    · intro b off hp
      have hin : MemPlace.cell b off ∈ before := by rw [hps]; simpa using hp
      rw [hb.frozen (hlt _ hin)]
      exact hz b off hin
    · intro ha
      have := hn ha
      rw [hps] at this
      simpa using this
    · intro p hp _
      rw [hps]
      simpa using hp

theorem arg_row {W : World} {base s : Nat} {t e : TypeId} {v : Value} {d : DataW H} {p : List MemPlace} (ht : P.underlying t = some (.slice e)) (hc : P.cellsOf e = s) (hs : 0 < s) (hv : Value.okWide P W .any base t v)
    (h : DataW.Trod enc P W 0 (fun _ => true) true t v d p) (row : (Nat → Int) → List Value) (ok : (Nat → Int) → Prop) (hrow : ∀ f, (row f).length = s ∧ ∀ x ∈ row f, x.oneCell' = true)
    (he : ∀ n cs x, cs.length = s → DataW.trod enc P W 0 (fun _ => true) true n e cs = some x → ∃ f, ok f ∧ cs = row f) (tt : TypeId) (htab : TabOk (fun k => W.heap.size ≤ k) W := by intro x hx; simp [tabG] at hx) :
    ∃ (m : Nat) (ν : Nu) (g : Nat → Nat → Int), m ≤ 9223372036854775807 ∧ (∀ j, j < m → ok (g j)) ∧ VR ν (.sl 0 s 0 0 m none) v ∧ RH (fun k => W.heap.size ≤ k) ν (fun b => ([AB.row false m s (fun j => row (g j)) tt] : List AB).getD b .gone) W ∧ ∀ i b, ν i = some b → i < 1 := by
  obtain ⟨pt, len, cap, rfl⟩ := okWide_slice ht hv
  obtain ⟨fuel, hf⟩ := h
  have empty : ∀ c, VR (fun _ => none) (.sl 0 s 0 0 0 none) (.slice pt 0 c) → ∃ (m : Nat) (ν : Nu) (g : Nat → Nat → Int), m ≤ 9223372036854775807 ∧ (∀ j, j < m → ok (g j)) ∧ VR ν (.sl 0 s 0 0 m none) (.slice pt 0 c) ∧ RH (fun k => W.heap.size ≤ k) ν (fun b => ([AB.row false m s (fun j => row (g j)) tt] : List AB).getD b .gone) W ∧ ∀ i b, ν i = some b → i < 1 := by
    intro c hvr
    refine ⟨0, fun _ => none, fun _ _ => 0, by omega, fun j hj => by omega, hvr, ⟨fun i => ?_, fun i j b b' _ _ _ h => by simp at h, fun i b _ h => by simp at h, (fun i b h => by simp at h), htab⟩, fun i b h => by simp at h⟩
    match i with
    | 0 => exact .inl ⟨rfl, rfl, rfl⟩
    | n + 1 => trivial
  rcases open_slice ht hf with ⟨h0, _⟩ | ⟨a, len', cap', m, n, D, Pl, hcs, hb, hl, hm, hmm, hx, hi⟩
  · simp only [Value.cells] at h0
    simp at h0
    obtain ⟨rfl, rfl, rfl⟩ := h0
    exact empty 0 (by simp only [VR]; exact ⟨none, 0, rfl, by simp, Nat.le_refl _, by omega⟩)
  · simp only [Value.cells] at hcs
    simp at hcs
    obtain ⟨rfl, rfl, rfl⟩ := hcs
    simp only [if_true] at hmm
    subst hmm
    unfold maxLen at hm
    by_cases hz : m = 0
    · subst hz
      have : len = 0 := by omega
      subst this
      exact empty 0 (by simp only [VR]; exact ⟨some a, 0, rfl, by simp, Nat.le_refl _, by omega⟩)
    · have cells : ∀ i, ∃ f, i < m → ok f ∧ ∀ k, k < s → W.cell? ((a.add (i * s)).add k) = (row f)[k]? := by
        intro i
        by_cases him : i < m
        · obtain ⟨cs', h1, h2⟩ := hi i him
          rw [hc] at h1
          obtain ⟨_, h3, h4⟩ := World.cells?_some h1
          obtain ⟨f, h5, h6⟩ := he n cs' _ h3 h2
          exact ⟨f, fun _ => ⟨h5, fun k hk => by rw [h4 k hk, h6]⟩⟩
        · exact ⟨fun _ => 0, fun h => absurd h him⟩
      have get : ∀ i k, i < m → k < s → ∃ x, (row (Classical.choose (cells i)))[k]? = some x := fun i k _ hk => by
        have := (hrow (Classical.choose (cells i))).1
        exact ⟨_, List.getElem?_eq_getElem (by omega)⟩
      obtain ⟨x0, hx0⟩ := get 0 0 (by omega) hs
      have c0 := ((Classical.choose_spec (cells 0)) (by omega)).2 0 hs
      rw [hx0, Nat.zero_mul] at c0
      have hspot : a.spot = none := by
        have := World.cell?_spot c0
        simpa [Addr.add] using this
      obtain ⟨bl, off, sp⟩ := a
      simp only at hspot
      subst hspot
      have e0 : ((⟨bl, off, none⟩ : Addr).add 0).add 0 = ⟨bl, off, none⟩ := by simp [Addr.add]
      rw [e0] at c0
      obtain ⟨o, ho⟩ : ∃ o, W.heap[bl]? = some o := by
        unfold World.cell? at c0
        split at c0
        · exact ⟨_, by assumption⟩
        · cases c0
      obtain ⟨l, t', fz, rfl⟩ : ∃ l t' fz, o = .cells (List.toArray l) t' fz := by
        unfold World.cell? at c0
        simp only [ho] at c0
        cases o with
        | cells c t' fz => exact ⟨c.toList, t', fz, by simp⟩
        | _ => cases c0
      refine ⟨len, fun i => if i = 0 then some ⟨bl, off, m⟩ else none, fun i => Classical.choose (cells i), by omega, fun j hj => ((Classical.choose_spec (cells j)) (by omega)).1, ?_, ⟨fun i => ?_, fun i j b b' hij hw _ h1 h2 => ?_, fun i b hw h1 => ?_, fun i b h1 => ?_, htab⟩, fun i b h1 => ?_⟩
      · simp only [VR]
        exact ⟨_, m, rfl, by simp, hl, fun _ => ⟨_, rfl, by simp⟩⟩
      · match i with
        | 0 =>
          refine .inr ⟨⟨bl, off, m⟩, l, t', fz, rfl, ho, fun h => by simp at h, hl, fun j hj => ⟨hrow _, fun k hk => ?_⟩⟩
          have := ((Classical.choose_spec (cells j)) (by omega)).2 k hk
          rw [← this]
          have e1 : ((⟨bl, off, none⟩ : Addr).add (j * s)).add k = ⟨bl, off + (j * s + k), none⟩ := by
            rw [addr_add, addr_add, Nat.add_assoc]
          rw [e1, cell_at ho]
        | n + 1 => trivial
      · match i with
        | 0 => simp [AB.wr] at hw
        | n + 1 => simp at h1
      · match i with
        | 0 => simp [AB.wr] at hw
        | n + 1 => simp at h1
      · match i with
        | 0 =>
          simp at h1
          subst h1
          exact (Array.getElem?_eq_some_iff.1 ho).1
        | n + 1 => simp at h1
      · match i with
        | 0 => omega
        | n + 1 => simp at h1
end

theorem yes_calls {Γ : Gam} (hΓ : GamOk Tryz.prog Γ) {Λ : Nat → Option Sum} {n : Nat} {f : FuncId} {fn : Func} {avs : List AV} {H : List AB} {ν : Nu} {vals : List Value} {w : World} (hf : Tryz.prog.funcs[f]? = some fn)
    (hL : ∀ c, fn.body = some c → LamOk Tryz.prog H.length Λ c) (h : GoodQ (execF Tryz.prog Γ Λ n fn avs H (packK H.length)) SaysYes) (hv : VRs ν avs vals) (hH : RH (fun k => w.heap.size ≤ k) ν (fun b => H.getD b .gone) w) (hdom : ∀ i b, ν i = some b → i < H.length) :
    Calls Tryz.prog f vals.toArray w fun e w' => e = .returned (.bool true) ∧ Below w.heap.size w w' := by
  refine (calls_pack hΓ mixed enters hf hL (fun k hk => hk) h.out hv hH hdom).mono ?_
  rintro e w' ⟨v, av, H', ν', rfl, hq, hvr, _, hfr, _⟩
  have : [av] = [AV.v (.bool true)] := hq
  simp only [List.cons.injEq, and_true] at this
  subst this
  simp only [VR] at hvr
  subst hvr
  exact ⟨rfl, ⟨hfr.os, hfr.tape, hfr.output, hfr.size, fun k hk => hfr.block k hk (by omega)⟩⟩

def okI (f : Nat → Int) : Prop := ∀ k, -9223372036854775808 ≤ f k ∧ f k ≤ 9223372036854775807

end Go.Proofs.YtcadinbahmliiaaGreatDoor

/- The abstract machine, 27: words for callees by their view, which may hand back what points to rows that are only read. Conditions: those of the table of callees. -/
namespace Go.Proofs.YtcadinbahmliiaaGreatDoor
open Go.RowKit

end Go.Proofs.YtcadinbahmliiaaGreatDoor

/- A reader of bytes: pick, its tree. -/
namespace Go.Proofs.YtcadinbahmliiaaGreatDoor
open Go.RowKit
set_option maxRecDepth 100000

end Go.Proofs.YtcadinbahmliiaaGreatDoor

/- A reader of bytes: what pick returns. Conditions: bytes; the reader's place is at most 2^30. -/
namespace Go.Proofs.YtcadinbahmliiaaGreatDoor
open Go.RowKit
set_option maxRecDepth 100000

end Go.Proofs.YtcadinbahmliiaaGreatDoor

/- The frame of a law over bytes. No conditions. -/
namespace Go.Proofs.YtcadinbahmliiaaGreatDoor
open Go.ChangeShapes Go.WideShapes Go.ChangeAt Go.RowKit Go.Deep
set_option maxRecDepth 100000

section
variable {H : Type} {enc : TypeId × Value → H} {W : World}
end

end Go.Proofs.YtcadinbahmliiaaGreatDoor

/- l91Cyc: its trees. Conditions: those of pick. -/
namespace Go.Proofs.YtcadinbahmliiaaGreatDoor
open Go.RowKit
set_option maxRecDepth 100000

end Go.Proofs.YtcadinbahmliiaaGreatDoor

/- The abstract machine, 28: loops whose table of callees goes by the round. Conditions: those of the tables. -/
namespace Go.Proofs.YtcadinbahmliiaaGreatDoor
open Go.RowKit

end Go.Proofs.YtcadinbahmliiaaGreatDoor

/- l91Cyc: an exact point, whatever the bytes are. Conditions: those of pick. -/
namespace Go.Proofs.YtcadinbahmliiaaGreatDoor
open Go.RowKit
set_option maxRecDepth 100000

end Go.Proofs.YtcadinbahmliiaaGreatDoor

/- l91Turn and l91Design: their trees. Conditions: those of pick. -/
namespace Go.Proofs.YtcadinbahmliiaaGreatDoor
open Go.RowKit
set_option maxRecDepth 100000

end Go.Proofs.YtcadinbahmliiaaGreatDoor

/- l91Turn and l91Design: a number and a list of wheels, whatever the bytes are. Conditions: those of pick. -/
namespace Go.Proofs.YtcadinbahmliiaaGreatDoor
open Go.RowKit
set_option maxRecDepth 100000

end Go.Proofs.YtcadinbahmliiaaGreatDoor

/- What is drawn from bytes: the word of a drawing function. Conditions: bytes, at most 2^21. -/
namespace Go.Proofs.YtcadinbahmliiaaGreatDoor
open Go.RowKit
set_option maxRecDepth 100000

def noneL : List Wh := [⟨1001, cyZ⟩]

end Go.Proofs.YtcadinbahmliiaaGreatDoor

/- What is drawn: lists of wheels, and numbers. No conditions. -/
namespace Go.Proofs.YtcadinbahmliiaaGreatDoor
open Go.RowKit
set_option maxRecDepth 100000

end Go.Proofs.YtcadinbahmliiaaGreatDoor

/- Helpers of the laws that draw. No conditions. -/
namespace Go.Proofs.YtcadinbahmliiaaGreatDoor
open Go.RowKit
set_option maxRecDepth 100000

theorem listW_me (L : List Wh) : listW (itW (row9 (wfun L))) L.length = L := listW_self L _ rfl
theorem eachL_len (sp tn la : Int) (mir : Bool) (T : List Wh) : (eachL sp tn la mir T).length ≤ 12 := by
  unfold eachL
  cases eachP tn la T with
  | false => simp
  | true =>
    show (tidyL _).length ≤ 12
    cases h : okT (T.map (chE sp tn la mir)) with
    | true => exact tidyL_len h
    | false => rw [tidyL_no h]; simp
theorem tI_len (T : List Wh) : (tI T).length ≤ 12 := by
  unfold tI
  cases h : yI T with
  | false => simp
  | true =>
    rw [yI, Bool.and_eq_true] at h
    exact tidyL_len h.2
theorem tI_spec {L : List Wh} (h : yI L = true) : okD L = true ∧ isTidy (tI L) ∧ ∀ φ, Lin φ → linS φ (tI L) = linS φ L := by
  have hT : tI L = tidyL L := by rw [tI, h]; rfl
  rw [yI, Bool.and_eq_true] at h
  rw [hT]
  exact ⟨h.1, tidyL_lin ((okD_bd h.1).mono (by omega)) h.2⟩
theorem isTidy_nil : isTidy [] := ⟨List.Pairwise.nil, fun w hw => by simp at hw, rfl⟩
theorem tI_tidy (L : List Wh) : isTidy (tI L) := by
  cases h : yI L with
  | true => exact (tI_spec h).2.1
  | false => rw [tI_no h]; exact isTidy_nil
theorem yI_self {T : List Wh} (h : isTidy T) : yI T = true := by
  rw [yI, tidy_okD h, okT_self h]
  rfl
theorem tI_self {T : List Wh} (h : isTidy T) : tI T = T := by
  rw [tI, yI_self h, cond_true, tidyL_self h]
end Go.Proofs.YtcadinbahmliiaaGreatDoor

/- What is written is read back; both sides read the same. Plain. No conditions. -/
namespace Go.Proofs.YtcadinbahmliiaaGreatDoor
open Go.RowKit
set_option maxRecDepth 100000

theorem bytes_ext {a b : ByteArray} (h : a.data.toList = b.data.toList) : a = b := by
  cases a; cases b
  congr 1
  exact Array.ext' h
theorem eqB_eq {a b : ByteArray} (h : eqB a b = true) : a = b := by
  have := of_decide_eq_true h
  rw [ByteArray.toList_eq, ByteArray.toList_eq] at this
  exact bytes_ext this
theorem eqB_ne {a b : ByteArray} (h : a.data.toList ≠ b.data.toList) : eqB a b = false := by
  refine decide_eq_false fun e => h ?_
  rwa [ByteArray.toList_eq, ByteArray.toList_eq] at e
theorem data_mk (l : List UInt8) : (ByteArray.mk l.toArray).data.toList = l := rfl
theorem map_bytes {ws : List ByteArray} {xs : List (List UInt8)} (h : ws.map (·.data.toList) = xs) : ws = xs.map fun l => ⟨l.toArray⟩ := by
  subst h
  rw [List.map_map]
  symm
  exact (List.map_congr_left (g := id) fun b _ => bytes_ext rfl).trans (List.map_id _)

theorem spB_cuC (s : ByteArray) (c : UInt8) : spB s (ByteArray.mk (Array.mk [c])) = (cuC c s.data.toList).map fun l => ⟨l.toArray⟩ := by
  refine map_bytes ?_
  rw [spB, Lib.splitB_data]
  exact splitK_cuC _ _ (Lib.count_one c _).symm

theorem cutP_inv (s : ByteArray) (c : UInt8) : ∀ i : Nat, i ≤ s.size → cuC c s.data.toList = (cutP s (c.toNat : Int) i).1.map (·.data.toList) ++ cuC c (s.data.toList.drop (cutP s (c.toNat : Int) i).2) ∧ ∀ k, (cutP s (c.toNat : Int) i).2 ≤ k → k < i → s.data.toList[k]? ≠ some c
  | 0, _ => ⟨by simp [cutP], fun k _ h => absurd h (Nat.not_lt_zero _)⟩
  | i + 1, h => by
    obtain ⟨h1, h2⟩ := cutP_inv s c i (by omega)
    have hle := (cutP_le s (c.toNat : Int) i).2
    have hsz : s.data.toList.length = s.size := by rw [Array.length_toList]; rfl
    have hb : byB s (i : Int) = ((s.data.toList[i]'(by omega)).toNat : Int) := by
      unfold byB
      rw [Int.toNat_natCast, getElem!_pos s.data i (by have : s.data.size = s.size := rfl; omega)]
      rfl
    have hg : s.data.toList[i]? = some (s.data.toList[i]'(by omega)) := List.getElem?_eq_getElem _
    have hne : ((i : Int) == (s.size : Int)) = false := by rw [beq_eq_false_iff_ne]; omega
    rw [cutP, stepCt, hne, Bool.false_or]
    cases hq : byB s (i : Int) == (c.toNat : Int) with
    | true =>
      have hc : s.data.toList[i]'(by omega) = c := by
        have := eq_of_beq hq
        rw [hb] at this
        exact UInt8.toNat_inj.1 (by omega)
      simp only [cond_true]
      refine ⟨?_, fun k hk hk' => by omega⟩
      rw [h1, List.map_append, List.append_assoc]
      congr 1
      have e : s.data.toList.drop (cutP s (c.toNat : Int) i).2 = (s.extract (cutP s (c.toNat : Int) i).2 i).data.toList ++ c :: s.data.toList.drop (i + 1) := by
        rw [Lib.extract_data]
        have e2 : (s.data.toList.drop (cutP s (c.toNat : Int) i).2).drop (i - (cutP s (c.toNat : Int) i).2) = c :: s.data.toList.drop (i + 1) := by
          rw [List.drop_drop, show (cutP s (c.toNat : Int) i).2 + (i - (cutP s (c.toNat : Int) i).2) = i by omega, List.drop_eq_getElem_cons (by omega), hc]
        rw [← e2, List.take_append_drop]
      rw [e, cuC_app]
      · rfl
      · rw [Lib.extract_data]
        intro hm
        obtain ⟨k, hk⟩ := List.mem_iff_getElem?.1 hm
        rw [List.getElem?_take] at hk
        split at hk
        · rename_i hlt
          rw [List.getElem?_drop] at hk
          exact h2 _ (by omega) (by omega) hk
        · cases hk
    | false =>
      simp only [cond_false]
      refine ⟨h1, fun k hk hk' => ?_⟩
      rcases Nat.lt_or_ge k i with hlt | hge
      · exact h2 k hk hlt
      · have : k = i := by omega
        subst this
        rw [hg]
        intro e
        simp only [Option.some.injEq] at e
        rw [hb, e] at hq
        simp at hq
theorem cutB_cuC (s : ByteArray) (c : UInt8) : cutB s (c.toNat : Int) = (cuC c s.data.toList).map fun l => ⟨l.toArray⟩ := by
  refine map_bytes ?_
  obtain ⟨h1, h2⟩ := cutP_inv s c s.size (Nat.le_refl _)
  have hle := (cutP_le s (c.toNat : Int) s.size).2
  have hsz : s.data.toList.length = s.size := by rw [Array.length_toList]; rfl
  have hfree : c ∉ s.data.toList.drop (cutP s (c.toNat : Int) s.size).2 := fun hm => by
    obtain ⟨k, hk⟩ := List.mem_iff_getElem?.1 hm
    rw [List.getElem?_drop] at hk
    have hlt := (List.getElem?_eq_some_iff.1 hk).1
    exact h2 _ (by omega) (by omega) hk
  rw [h1, cuC_free _ hfree]
  show List.map _ (cutP s (c.toNat : Int) (s.size + 1)).1 = _
  rw [cutP, stepCt, show ((s.size : Int) == (s.size : Int)) = true from beq_self_eq_true _, Bool.true_or]
  simp only [cond_true, List.map_append, List.map_cons, List.map_nil]
  rw [Lib.extract_data, List.take_of_length_le (by rw [List.length_drop]; omega)]

def valD (l : List UInt8) : Int := l.foldl (fun a b => 10 * a + ((b.toNat : Int) - 48)) 0
theorem valD_snoc (l : List UInt8) (b : UInt8) : valD (l ++ [b]) = 10 * valD l + ((b.toNat : Int) - 48) := by
  rw [valD, List.foldl_append]
  rfl
theorem valD_digits (u : Nat) : valD (Lib.decDigits u) = u := by
  induction u using Nat.strongRecOn with
  | _ u ih =>
    have e : ∀ k, k < 10 → ((UInt8.ofNat (48 + k)).toNat : Int) - 48 = k := fun k hk => by
      rw [UInt8.toNat_ofNat']
      omega
    rw [Lib.decDigits]
    split
    · rename_i h
      have := valD_snoc [] (UInt8.ofNat (48 + u))
      rw [List.nil_append] at this
      rw [this, e u h]
      show 10 * valD [] + (u : Int) = u
      rw [show valD [] = 0 from rfl]
      omega
    · rw [valD_snoc, ih (u / 10) (by omega), e _ (Nat.mod_lt _ (by omega))]
      omega
theorem byB_at {s : ByteArray} {i : Nat} (h : i < s.data.toList.length) : byB s (i : Int) = ((s.data.toList[i]).toNat : Int) := by
  unfold byB
  rw [Int.toNat_natCast, getElem!_pos s.data i (by simpa using h)]
  rfl
theorem numP_digits (l : List UInt8) (hl : ∀ b ∈ l, digU b) : ∀ i : Nat, i ≤ l.length → numP ⟨l.toArray⟩ i = (valD (l.take i), 1)
  | 0, _ => rfl
  | i + 1, h => by
    have hb := byB_at (s := ⟨l.toArray⟩) (i := i) (by simp; omega)
    simp only [] at hb
    have hd := hl l[i] (List.getElem_mem (by omega))
    unfold digU at hd
    rw [numP, numP_digits l hl i (by omega), List.take_add_one, List.getElem?_eq_getElem (by omega), show (some l[i]).toList = [l[i]] from rfl, valD_snoc, hb]
    have e1 : ((l[i].toNat : Int) == 45) = false := by rw [beq_eq_false_iff_ne]; omega
    rw [e1, Bool.and_false, decide_eq_true (by omega : (48 : Int) ≤ (l[i].toNat : Int)), decide_eq_true (by omega : (l[i].toNat : Int) ≤ 57)]
    rfl
theorem numP_minus (l : List UInt8) (hl : ∀ b ∈ l, digU b) : ∀ i : Nat, i ≤ l.length → numP ⟨(45 :: l).toArray⟩ (i + 1) = (valD (l.take i), -1)
  | 0, _ => by
    rw [numP]
    rfl
  | i + 1, h => by
    have hb := byB_at (s := ⟨(45 :: l).toArray⟩) (i := i + 1) (by simp; omega)
    simp only [List.getElem_cons_succ] at hb
    have hd := hl l[i] (List.getElem_mem (by omega))
    unfold digU at hd
    rw [numP, numP_minus l hl i (by omega), List.take_add_one, List.getElem?_eq_getElem (by omega), show (some l[i]).toList = [l[i]] from rfl, valD_snoc, hb]
    rw [show Nat.beq (i + 1) 0 = false from rfl, Bool.false_and, decide_eq_true (by omega : (48 : Int) ≤ (l[i].toNat : Int)), decide_eq_true (by omega : (l[i].toNat : Int) ≤ 57)]
    rfl
theorem digits_len {u : Nat} (h : u < 10 ^ 8) : (Lib.decDigits u).length ≤ 8 := by
  rw [Lib.decDigits_length]
  exact nDigits_le 7 u h
theorem numI_itoa (n : Int) (h1 : -100000000 < n) (h2 : n < 100000000) : numI ⟨(Lib.itoa n).toArray⟩ = n := by
  have hm : ∀ l : List UInt8, l.length ≤ 9 → numM ⟨l.toArray⟩ = l.length := fun l h => by
    rw [numM, mk_size]
    omega
  rw [Lib.itoa]
  split
  · rename_i hn
    have hl := digits_len (u := n.natAbs) (by omega)
    have := numP_minus (Lib.decDigits n.natAbs) (decDigits_dig _) (Lib.decDigits n.natAbs).length (Nat.le_refl _)
    rw [numI, hm _ (by simp only [List.length_cons]; omega), List.length_cons, this, List.take_length, valD_digits]
    show (-1 : Int) * (n.natAbs : Int) = n
    omega
  · rename_i hn
    have hl := digits_len (u := n.toNat) (by omega)
    have := numP_digits (Lib.decDigits n.toNat) (decDigits_dig _) (Lib.decDigits n.toNat).length (Nat.le_refl _)
    rw [numI, hm _ (by omega), this, List.take_length, valD_digits]
    show (1 : Int) * (n.toNat : Int) = n
    omega

def eight (r : Cy) : List Int := [r.c0, r.c1, r.c2, r.c3, r.c4, r.c5, r.c6, r.c7]
theorem wtxL_eq (w : Wh) : wtxL w = Lib.itoa w.s ++ 58 :: Lib.join ((eight w.r).map Lib.itoa) [44] := rfl
theorem free58 (n : Int) : (58 : UInt8) ∉ Lib.itoa n := itoa_free (by decide) n
theorem free44 (n : Int) : (44 : UInt8) ∉ Lib.itoa n := itoa_free (by decide) n
theorem free32 (n : Int) : (32 : UInt8) ∉ Lib.itoa n := itoa_free (by decide) n
theorem eight_cut (r : Cy) : cuC 44 (Lib.join ((eight r).map Lib.itoa) [44]) = (eight r).map Lib.itoa := by
  refine cuC_join _ _ fun y hy => ?_
  have hy' : y ∈ (eight r).map Lib.itoa := hy
  obtain ⟨n, _, rfl⟩ := List.mem_map.1 hy'
  exact free44 n
theorem join_mem {b : UInt8} {c : UInt8} : ∀ (xs : List (List UInt8)), b ∈ Lib.join xs [c] → b = c ∨ ∃ x ∈ xs, b ∈ x
  | [], h => by simp [Lib.join_nil] at h
  | x :: xs, h => by
    rw [Lib.join_cons, List.mem_append] at h
    rcases h with h | h
    · exact .inr ⟨x, List.mem_cons_self, h⟩
    · simp only [Lib.joinTail, List.mem_flatten, List.mem_map] at h
      obtain ⟨l, ⟨y, hy, rfl⟩, hb⟩ := h
      rcases List.mem_append.1 hb with hb | hb
      · exact .inl (by simpa using hb)
      · exact .inr ⟨y, List.mem_cons_of_mem _ hy, hb⟩
theorem join8_free {b : UInt8} (r : Cy) (h1 : b ≠ 44) (h2 : ∀ n, b ∉ Lib.itoa n) : b ∉ Lib.join ((eight r).map Lib.itoa) [44] := fun hb => by
  rcases join_mem _ hb with e | ⟨x, hx, hb⟩
  · exact h1 e
  · obtain ⟨n, _, rfl⟩ := List.mem_map.1 hx
    exact h2 n hb
theorem wtx_free (w : Wh) : (32 : UInt8) ∉ wtxL w := by
  rw [wtxL_eq, List.mem_append, List.mem_cons]
  rintro (h | h | h)
  · exact free32 _ h
  · cases h
  · exact join8_free w.r (by decide) free32 h
theorem itoa_at {n : Int} (h : -1000000 ≤ n ∧ n ≤ 1000000) : atE ⟨(Lib.itoa n).toArray⟩ = false ∧ atV ⟨(Lib.itoa n).toArray⟩ = n := by
  have := atoi_itoa n (by omega) (by omega)
  constructor
  · rw [atE, data_mk, this]
  · rw [atV, data_mk, this]

theorem wo_wtx {w : Wh} (h : okw w = true) : wo (wtx w) = (w, true) := by
  have h9 := okw_9 h
  simp only [List.forall_mem_cons, List.not_mem_nil, false_imp_iff, implies_true, and_true] at h9
  obtain ⟨b0, b1, b2, b3, b4, b5, b6, b7, b8⟩ := h9
  have hc : Lib.cut (wtx w).data.toList colon.data.toList = (Lib.itoa w.s, Lib.join ((eight w.r).map Lib.itoa) [44], true) := by
    show Lib.cut (wtxL w) [58] = _
    rw [wtxL_eq]
    exact cut_app (free58 _)
  have hA : cuA (wtx w) colon = ⟨(Lib.itoa w.s).toArray⟩ := by rw [cuA, hc]
  have hB : cuB (wtx w) colon = ⟨(Lib.join ((eight w.r).map Lib.itoa) [44]).toArray⟩ := by rw [cuB, hc]
  have hs : spB (cuB (wtx w) colon) comma = ((eight w.r).map Lib.itoa).map fun l => ⟨l.toArray⟩ := by
    rw [hB, show comma = ByteArray.mk (Array.mk [44]) from rfl, spB_cuC, data_mk, eight_cut]
  rw [wo, spLn, hs]
  simp only [List.length_map, eight, List.length_cons, List.length_nil, Nat.reduceAdd]
  rw [show Nat.beq 8 8 = true from rfl, cond_true, hA]
  have g : ∀ j, spG (cuB (wtx w) colon) comma j = (((eight w.r).map Lib.itoa).map fun l => (⟨l.toArray⟩ : ByteArray)).getD j ⟨#[]⟩ := fun j => by rw [spG, hs]
  have g0 : spG (cuB (wtx w) colon) comma 0 = ⟨(Lib.itoa w.r.c0).toArray⟩ := g 0
  have g1 : spG (cuB (wtx w) colon) comma 1 = ⟨(Lib.itoa w.r.c1).toArray⟩ := g 1
  have g2 : spG (cuB (wtx w) colon) comma 2 = ⟨(Lib.itoa w.r.c2).toArray⟩ := g 2
  have g3 : spG (cuB (wtx w) colon) comma 3 = ⟨(Lib.itoa w.r.c3).toArray⟩ := g 3
  have g4 : spG (cuB (wtx w) colon) comma 4 = ⟨(Lib.itoa w.r.c4).toArray⟩ := g 4
  have g5 : spG (cuB (wtx w) colon) comma 5 = ⟨(Lib.itoa w.r.c5).toArray⟩ := g 5
  have g6 : spG (cuB (wtx w) colon) comma 6 = ⟨(Lib.itoa w.r.c6).toArray⟩ := g 6
  have g7 : spG (cuB (wtx w) colon) comma 7 = ⟨(Lib.itoa w.r.c7).toArray⟩ := g 7
  rw [woR, g0, g1, g2, g3, g4, g5, g6, g7, (itoa_at b0).1, (itoa_at b1).1, (itoa_at b2).1, (itoa_at b3).1, (itoa_at b4).1, (itoa_at b5).1, (itoa_at b6).1, (itoa_at b7).1, (itoa_at b8).1,
    (itoa_at b0).2, (itoa_at b1).2, (itoa_at b2).2, (itoa_at b3).2, (itoa_at b4).2, (itoa_at b5).2, (itoa_at b6).2, (itoa_at b7).2, (itoa_at b8).2]
  rfl
theorem whS_wtx {w : Wh} (h : okw w = true) : okRS (wtx w) = true ∧ whS (wtx w) = w := by
  have h9 := okw_9 h
  simp only [List.forall_mem_cons, List.not_mem_nil, false_imp_iff, implies_true, and_true] at h9
  obtain ⟨b0, b1, b2, b3, b4, b5, b6, b7, b8⟩ := h9
  have h1 : cutB (wtx w) 58 = [⟨(Lib.itoa w.s).toArray⟩, ⟨(Lib.join ((eight w.r).map Lib.itoa) [44]).toArray⟩] := by
    rw [show (58 : Int) = (((58 : UInt8).toNat : Nat) : Int) from rfl, cutB_cuC]
    show List.map _ (cuC 58 (wtxL w)) = _
    rw [wtxL_eq, cuC_app _ _ (free58 _), cuC_free _ (join8_free w.r (by decide) free58)]
    rfl
  have e0 : cuG (wtx w) 58 0 = ⟨(Lib.itoa w.s).toArray⟩ := by rw [cuG, h1]; rfl
  have e1 : cuG (wtx w) 58 1 = ⟨(Lib.join ((eight w.r).map Lib.itoa) [44]).toArray⟩ := by rw [cuG, h1]; rfl
  have h2 : cutB (cuG (wtx w) 58 1) 44 = ((eight w.r).map Lib.itoa).map fun l => ⟨l.toArray⟩ := by
    rw [e1, show (44 : Int) = (((44 : UInt8).toNat : Nat) : Int) from rfl, cutB_cuC, data_mk, eight_cut]
  have g0 : cuG (cuG (wtx w) 58 1) 44 0 = ⟨(Lib.itoa w.r.c0).toArray⟩ := by rw [cuG, h2]; rfl
  have g1 : cuG (cuG (wtx w) 58 1) 44 1 = ⟨(Lib.itoa w.r.c1).toArray⟩ := by rw [cuG, h2]; rfl
  have g2 : cuG (cuG (wtx w) 58 1) 44 2 = ⟨(Lib.itoa w.r.c2).toArray⟩ := by rw [cuG, h2]; rfl
  have g3 : cuG (cuG (wtx w) 58 1) 44 3 = ⟨(Lib.itoa w.r.c3).toArray⟩ := by rw [cuG, h2]; rfl
  have g4 : cuG (cuG (wtx w) 58 1) 44 4 = ⟨(Lib.itoa w.r.c4).toArray⟩ := by rw [cuG, h2]; rfl
  have g5 : cuG (cuG (wtx w) 58 1) 44 5 = ⟨(Lib.itoa w.r.c5).toArray⟩ := by rw [cuG, h2]; rfl
  have g6 : cuG (cuG (wtx w) 58 1) 44 6 = ⟨(Lib.itoa w.r.c6).toArray⟩ := by rw [cuG, h2]; rfl
  have g7 : cuG (cuG (wtx w) 58 1) 44 7 = ⟨(Lib.itoa w.r.c7).toArray⟩ := by rw [cuG, h2]; rfl
  refine ⟨?_, ?_⟩
  · rw [okRS, cuN, cuN, h1, h2]
    rfl
  · rw [whS, e0, g0, g1, g2, g3, g4, g5, g6, g7, numI_itoa _ (by omega) (by omega), numI_itoa _ (by omega) (by omega), numI_itoa _ (by omega) (by omega), numI_itoa _ (by omega) (by omega), numI_itoa _ (by omega) (by omega), numI_itoa _ (by omega) (by omega), numI_itoa _ (by omega) (by omega), numI_itoa _ (by omega) (by omega), numI_itoa _ (by omega) (by omega)]

theorem text_cut {w : Wh} {L : List Wh} : cuC 32 (textB (w :: L)).data.toList = (w :: L).map wtxL := by
  show cuC 32 (textL (w :: L)) = _
  refine cuC_join _ _ fun y hy => ?_
  have hy' : y ∈ (w :: L).map wtxL := hy
  obtain ⟨w', _, rfl⟩ := List.mem_map.1 hy'
  exact wtx_free w'
theorem text_dash (w : Wh) (L : List Wh) : eqB (textB (w :: L)) dash = false := by
  refine eqB_ne fun e => ?_
  have h58 : (58 : UInt8) ∈ (textB (w :: L)).data.toList := by
    show (58 : UInt8) ∈ textL (w :: L)
    rw [textL, List.map_cons, Lib.join_cons, List.mem_append, wtxL_eq, List.mem_append]
    exact .inl (.inr List.mem_cons_self)
  rw [e] at h58
  simp [dash] at h58
theorem text_nil : textB [] = dash := rfl
theorem re_text {L : List Wh} (h : ∀ w ∈ L, okw w = true) : reL (textB L) = L ∧ (eqB (textB L) dash || reW (textB L)) = true := by
  cases L with
  | nil => exact ⟨by rw [reL, text_nil, eqB_self]; rfl, by rw [text_nil, eqB_self]; rfl⟩
  | cons w L =>
    have hs : spB (textB (w :: L)) spc = (w :: L).map wtx := by
      rw [show spc = ByteArray.mk (Array.mk [32]) from rfl, spB_cuC, text_cut, List.map_map]
      rfl
    constructor
    · rw [reL, text_dash, cond_false, hs, List.map_map]
      exact (List.map_congr_left (g := id) fun x hx => by simp only [Function.comp, id, wo_wtx (h x hx)]).trans (List.map_id _)
    · rw [reW, hs, List.all_map]
      have : ((w :: L).all ((fun w => (wo w).2) ∘ wtx)) = true := List.all_eq_true.2 fun x hx => by simp only [Function.comp, wo_wtx (h x hx)]
      rw [this, Bool.or_true]
theorem rs_text {L : List Wh} (h : ∀ w ∈ L, okw w = true) : eqB (textB L) dash = true ∧ L = [] ∨ eqB (textB L) dash = false ∧ reS (textB L) = L ∧ reG (textB L) = true := by
  cases L with
  | nil => exact .inl ⟨by rw [text_nil, eqB_self], rfl⟩
  | cons w L =>
    have hs : cutB (textB (w :: L)) 32 = (w :: L).map wtx := by
      rw [show (32 : Int) = (((32 : UInt8).toNat : Nat) : Int) from rfl, cutB_cuC, text_cut, List.map_map]
      rfl
    refine .inr ⟨text_dash w L, ?_, ?_⟩
    · rw [reS, hs, List.map_map]
      exact (List.map_congr_left (g := id) fun x hx => by simp only [Function.comp, id, (whS_wtx (h x hx)).2]).trans (List.map_id _)
    · rw [reG, hs, List.all_map]
      exact List.all_eq_true.2 fun x hx => by simp only [Function.comp, (whS_wtx (h x hx)).1]

theorem tidy_okw {T : List Wh} (h : isTidy T) : ∀ w ∈ T, okw w = true := okD_okw (tidy_okD h)
theorem re_iff (s : ByteArray) (T : List Wh) : (yRI s = true ∧ tRI s = T) ↔ (isTidy T ∧ textB T = s ∧ s.size ≤ 1500) := by
  constructor
  · rintro ⟨h1, rfl⟩
    have h1' := h1
    rw [yRI, Bool.and_eq_true, Bool.and_eq_true, reK, Bool.and_eq_true] at h1'
    obtain ⟨⟨⟨a, _⟩, _⟩, d⟩ := h1'
    have e : tRI s = tI (reL s) := by rw [tRI, h1]; rfl
    rw [e]
    exact ⟨tI_tidy _, eqB_eq d, of_decide_eq_true a⟩
  · rintro ⟨hT, rfl, hs⟩
    obtain ⟨e1, e2⟩ := re_text (tidy_okw hT)
    have hy : yRI (textB T) = true := by rw [yRI, reK, e1, e2, yI_self hT, tI_self hT, eqB_self, decide_eq_true hs]; rfl
    exact ⟨hy, by rw [tRI, hy, e1, tI_self hT]; rfl⟩
theorem rs_iff (s : ByteArray) (T : List Wh) : (yRS s = true ∧ tRS s = T) ↔ (isTidy T ∧ textB T = s ∧ s.size ≤ 1500) := by
  constructor
  · rintro ⟨h1, rfl⟩
    have h1' := h1
    rw [yRS, Bool.and_eq_true] at h1'
    obtain ⟨a, b⟩ := h1'
    cases hd : eqB s dash with
    | true =>
      have e : tRS s = [] := by rw [tRS, hd, Bool.not_true, Bool.and_false]; rfl
      rw [e]
      exact ⟨isTidy_nil, (eqB_eq hd).symm, of_decide_eq_true a⟩
    | false =>
      rw [hd, Bool.false_or, Bool.and_eq_true, Bool.and_eq_true] at b
      obtain ⟨⟨b1, b2⟩, b3⟩ := b
      have e : tRS s = reS s := by rw [tRS, h1, hd]; rfl
      have et : txV (reS s) = textB (tI (reS s)) := by rw [txV, b2]; rfl
      rw [et] at b3
      have hs := eqB_eq b3
      have hT := tI_tidy (reS s)
      rcases rs_text (tidy_okw hT) with ⟨k1, _⟩ | ⟨_, k2, _⟩
      · rw [hs, hd] at k1
        cases k1
      · rw [hs] at k2
        rw [e]
        generalize tI (reS s) = T at hs hT k2
        subst k2
        exact ⟨hT, hs, of_decide_eq_true a⟩
  · rintro ⟨hT, rfl, hs⟩
    rcases rs_text (tidy_okw hT) with ⟨k1, rfl⟩ | ⟨k1, k2, k3⟩
    · have hy : yRS (textB []) = true := by rw [yRS, k1, decide_eq_true hs]; rfl
      exact ⟨hy, by rw [tRS, k1, Bool.not_true, Bool.and_false]; rfl⟩
    · have ht : txV T = textB T := by rw [txV, yI_self hT, cond_true, tI_self hT]
      have hy : yRS (textB T) = true := by rw [yRS, k1, k2, k3, yI_self hT, ht, eqB_self, decide_eq_true hs]; rfl
      exact ⟨hy, by rw [tRS, hy, k1, k2]; rfl⟩
theorem re_rs (s : ByteArray) : yRS s = yRI s ∧ tRS s = tRI s := by
  cases h : yRI s with
  | true =>
    obtain ⟨h1, h2⟩ := (rs_iff s (tRI s)).2 ((re_iff s (tRI s)).1 ⟨h, rfl⟩)
    exact ⟨h1, h2⟩
  | false =>
    have hs : yRS s = false := by
      cases h2 : yRS s with
      | false => rfl
      | true =>
        have := ((re_iff s (tRS s)).2 ((rs_iff s (tRS s)).1 ⟨h2, rfl⟩)).1
        rw [h] at this
        cases this
    exact ⟨hs, by rw [tRS, hs, tRI, h]; rfl⟩
end Go.Proofs.YtcadinbahmliiaaGreatDoor

/- EntryRight of both: trees. Conditions: an entry. -/
namespace Go.Proofs.YtcadinbahmliiaaGreatDoor
open Go.RowKit
set_option maxRecDepth 100000

def gmErI (yr : ByteArray → Bool) (tr : ByteArray → List Wh) (cv : List Wh → Int) (cy : List Wh → Bool) : Gam := ext (ext g0 18 (specU [.val] (UreO yr tr))) 41 (specR md_ws (FckO cv cy))
def gmErS (yr : ByteArray → Bool) (tr : ByteArray → List Wh) (cv : List Wh → Int) (cy : List Wh → Bool) : Gam := ext (ext g0 35 (specR [.val] (FreO yr tr))) 36 (specR md_ws (FckO cv cy))
theorem treeErS (yr : ByteArray → Bool) (tr : ByteArray → List Wh) (cv : List Wh → Int) (cy : List Wh → Bool) (s : ByteArray) (c : Int) : execF Tryz.prog (gmErS yr tr cv cy) noLam 100 Tryz.f11 [.v (.agg ⟨[.string s, .int .u32 c]⟩)] [] (packK 0)
    = bif !yr s then Res.out .ret [AV.v (.bool false)] [] else needs [Nat.ble (List.length (tr s)) (List.length (tr s)), allW (List.length (tr s)) (row9 (wfun (tr s))), decide (List.length (tr s) ≤ (274877906944 : Nat))] (bif cy (listW (itW (row9 (wfun (tr s)))) (List.length (tr s))) then Res.out .ret [AV.v (.bool (cv (listW (itW (row9 (wfun (tr s)))) (List.length (tr s))) == c))] [] else Res.out .ret [AV.v (.bool false)] []) := by kernel_rfl

end Go.Proofs.YtcadinbahmliiaaGreatDoor

/- l1Gcd, the reference's: its word. Conditions: numbers of 64 bits. -/
namespace Go.Proofs.YtcadinbahmliiaaGreatDoor
open Go.RowKit
set_option maxRecDepth 100000

end Go.Proofs.YtcadinbahmliiaaGreatDoor

/- The reference's RingDesign: trees; greatest common divisors. Conditions: numbers of 64 bits. -/
namespace Go.Proofs.YtcadinbahmliiaaGreatDoor
open Go.RowKit
set_option maxRecDepth 100000

end Go.Proofs.YtcadinbahmliiaaGreatDoor

/- l92Design: its trees. Conditions: those of pick. -/
namespace Go.Proofs.YtcadinbahmliiaaGreatDoor
open Go.RowKit
set_option maxRecDepth 100000

end Go.Proofs.YtcadinbahmliiaaGreatDoor

/- l92Design: a list of wheels, whatever the bytes are. Conditions: those of pick. -/
namespace Go.Proofs.YtcadinbahmliiaaGreatDoor
open Go.RowKit
set_option maxRecDepth 100000

end Go.Proofs.YtcadinbahmliiaaGreatDoor

/- What is drawn: designs with some symmetry. No conditions. -/
namespace Go.Proofs.YtcadinbahmliiaaGreatDoor
open Go.RowKit
set_option maxRecDepth 100000

end Go.Proofs.YtcadinbahmliiaaGreatDoor

/- EntryRight of both: their words; what is drawn: entries. Conditions: none. -/
namespace Go.Proofs.YtcadinbahmliiaaGreatDoor
open Go.RowKit
set_option maxRecDepth 100000

def erB (s : ByteArray) (c : Int) : Bool := yRI s && (ckY (tRI s) && (ckV (tRI s) == c))
def FerO (er : ByteArray → Int → Bool) : List SA → Option FR
  | [.v (.agg ⟨[.string s, .int .u32 c]⟩)] => some { val := .v (.bool (er s c)) }
  | _ => none
theorem tRI_len (s : ByteArray) : (tRI s).length ≤ 12 := by
  unfold tRI
  cases yRI s with
  | true => exact tI_len _
  | false => exact Nat.zero_le _
theorem gmErI_ok : GamOk Tryz.prog (gmErI yRI tRI ckV ckY) := ext_ok (ext_ok g0_ok ok_Ure) ok_ckI
theorem gmErS_ok : GamOk Tryz.prog (gmErS yRS tRS ckV ckY) := ext_ok (ext_ok g0_ok ok_reS) ok_ckS
theorem ok_erS : SpecOk Tryz.prog 11 (specR [.val] (FerO erB)) := by
  refine specR_hr gmErS_ok Tryz.func11 rfl fun sas fr hF ho => ?_
  unfold FerO at hF
  split at hF
  · rename_i s c
    cases hF
    refine ⟨[], noLam, 100, Hsim.refl _, noLam' _, ?_⟩
    show GoodQ (execF Tryz.prog (gmErS yRS tRS ckV ckY) noLam 100 Tryz.f11 [.v (.agg ⟨[.string s, .int .u32 c]⟩)] [] (packK 0)) _
    have fin : ∀ b, erB s c = b → GivR (abP [Md.val] [SA.v (.agg ⟨[.string s, .int .u32 c]⟩)] []) { val := .v (.bool (erB s c)) } .ret [.v (.bool b)] [] := fun b h => ⟨_, by rw [h]; rfl, rfl, Hsim.refl _⟩
    have hl := tRI_len s
    rw [treeErS, (re_rs s).1, (re_rs s).2, show listW (itW (row9 (wfun (tRI s)))) (tRI s).length = tRI s from listW_self _ _ rfl]
    refine good_cond (fun h1 => good_out (fin _ ?_)) fun h1 => good_needs (by simp only [ob_cons, ob_nil, and_true, decide_eq_true_eq, Nat.ble_eq, allW_row, true_and]; omega) (good_cond (fun h2 => good_out (fin _ ?_)) fun h2 => good_out (fin _ ?_))
    · rw [Bool.not_eq_true'] at h1
      rw [erB, h1]; rfl
    · rw [Bool.not_eq_false'] at h1
      rw [erB, h1, h2]; rfl
    · rw [Bool.not_eq_false'] at h1
      rw [erB, h1, h2]; rfl
  · cases hF
end Go.Proofs.YtcadinbahmliiaaGreatDoor

/- What is drawn: entries. Conditions: bytes. -/
namespace Go.Proofs.YtcadinbahmliiaaGreatDoor
open Go.RowKit
set_option maxRecDepth 100000

end Go.Proofs.YtcadinbahmliiaaGreatDoor

/- DrawDesignCheck: a list of wheels. Conditions: bytes, at most 2^21. -/
namespace Go.Proofs.YtcadinbahmliiaaGreatDoor
open Go.RowKit
set_option maxRecDepth 100000

end Go.Proofs.YtcadinbahmliiaaGreatDoor

/- The greatest common divisor, of both. Conditions: numbers up to 10^12. -/
namespace Go.Proofs.YtcadinbahmliiaaGreatDoor
open Go.RowKit
set_option maxRecDepth 100000

end Go.Proofs.YtcadinbahmliiaaGreatDoor

/- DesignPeriod and DesignFold of both: trees. Conditions: a list of wheels. -/
namespace Go.Proofs.YtcadinbahmliiaaGreatDoor
open Go.RowKit
set_option maxRecDepth 100000

end Go.Proofs.YtcadinbahmliiaaGreatDoor

/- DesignPeriod and DesignFold of both: their words. Conditions: a list of wheels. -/
namespace Go.Proofs.YtcadinbahmliiaaGreatDoor
open Go.RowKit
set_option maxRecDepth 100000

end Go.Proofs.YtcadinbahmliiaaGreatDoor

/- FnCheck: its tree. Conditions: bytes. -/
namespace Go.Proofs.YtcadinbahmliiaaGreatDoor
open Go.RowKit
set_option maxRecDepth 100000

end Go.Proofs.YtcadinbahmliiaaGreatDoor

/- FnCheck returns true, whatever the bytes are. Conditions: bytes. -/
namespace Go.Proofs.YtcadinbahmliiaaGreatDoor
open Go.RowKit
set_option maxRecDepth 100000

end Go.Proofs.YtcadinbahmliiaaGreatDoor

/- The laws of entries: FnExactEntryRight, FnEntry, FnRight return true. Conditions: bytes; an entry. -/
namespace Go.Proofs.YtcadinbahmliiaaGreatDoor
open Go.RowKit
set_option maxRecDepth 100000

end Go.Proofs.YtcadinbahmliiaaGreatDoor

/- The function that yields the pairs of turns: its word. Conditions: none. -/
namespace Go.Proofs.YtcadinbahmliiaaGreatDoor
open Go.RowKit
set_option maxRecDepth 100000

noncomputable abbrev fPr : Func := Tryz.f97
noncomputable def pR0 : Code := sqA (fPr.body.getD .skip)
noncomputable def pL0 : Code := loopAt 0 fPr
noncomputable def pL2 : Code := loopAt 2 fPr
noncomputable def pR1 : Code := sqA pL0
noncomputable def pB1 : Code := blB (sqA (sqB (sqB pL0)))
noncomputable def pR8 : Code := sqB (sqB (sqB pL0))
noncomputable def pR2 : Code := sqA pB1
noncomputable def pR3 : Code := sqA (sqB pB1)
noncomputable def pR4 : Code := sqA pL2
noncomputable def pB3 : Code := blB (sqA (sqB (sqB pL2)))
noncomputable def pR7 : Code := sqB (sqB (sqB pL2))
noncomputable def pR5 : Code := sqA pB3
noncomputable def pO6 : Array Oper := match sqA (sqB pB3) with | .region _ o _ => o | _ => #[]
theorem bodyPr : fPr.body = some (.seq pR0 (.block 0 (.loop pL0))) := by kernel_rfl
theorem loopP0 : pL0 = .seq pR1 (.seq (.cond (.tmp 5) .skip (.exit 0)) (.seq (.block 1 (.seq pR2 (.seq pR3 (.block 2 (.loop pL2))))) pR8)) := by kernel_rfl
theorem loopP2 : pL2 = .seq pR4 (.seq (.cond (.tmp 8) .skip (.exit 2)) (.seq (.block 3 (.seq pR5 (.seq (.region 6 pO6 false) (.cond (.tmp 14) .ret .skip)))) pR7)) := by kernel_rfl

def sP0 (l i : Nat) : List AV := mkT 0 17 [(0, .v (yv l)), (4, .v (i64 i))]
def sP1 (l i : Nat) : List AV := mkT 0 17 [(0, .v (yv l)), (2, .v (i64 i)), (4, .v (i64 i))]
def sP2 (l i j : Nat) : List AV := mkT 0 17 [(0, .v (yv l)), (2, .v (i64 i)), (4, .v (i64 i)), (7, .v (i64 j))]
def sP6 (l i j : Nat) : List AV := mkT 0 17 [(0, .v (yv l)), (2, .v (i64 i)), (3, .v (i64 j)), (4, .v (i64 i)), (7, .v (i64 j))]
def sP7 (l i j : Nat) (b c : Bool) : List AV := (((((sP6 l i j).set 10 (.v (yv l))).set 11 (.v (i64 i))).set 12 (.v (i64 j))).set 13 (.v (.bool b))).set 14 (.v (.bool c))
theorem runP0 (l : Nat) : execC Tryz.prog g0 100 noLam pR0 ([.v (yv l)] ++ List.replicate 16 (.v undef)) [] (leafK (lv3 [0, 4] [] []) 0) = .out .normal (sP0 l 0) [] := by kernel_rfl
theorem runP1 (l i : Nat) : execC Tryz.prog g0 100 noLam pR1 (sP0 l i) [] (leafK (lv3 [0, 4, 5] [] []) 0) = .out .normal ((sP0 l i).set 5 (.v (.bool (decide ((i : Int) < 24))))) [] := by kernel_rfl
theorem runP2 (l i : Nat) (b : Bool) : execC Tryz.prog g0 100 noLam pR2 ((sP0 l i).set 5 (.v (.bool b))) [] (leafK (lv3 [0, 2, 4] [] []) 0) = .out .normal (sP1 l i) [] := by kernel_rfl
theorem runP3 (l i : Nat) : execC Tryz.prog g0 100 noLam pR3 (sP1 l i) [] (leafK (lv3 [0, 2, 4, 7] [] []) 0) = .out .normal (sP2 l i 0) [] := by kernel_rfl
theorem runP4 (l i j : Nat) : execC Tryz.prog g0 100 noLam pR4 (sP2 l i j) [] (leafK (lv3 [0, 2, 4, 7, 8] [] []) 0) = .out .normal ((sP2 l i j).set 8 (.v (.bool (decide ((j : Int) < 24))))) [] := by kernel_rfl
theorem runP5 (l i j : Nat) (b : Bool) : execC Tryz.prog g0 100 noLam pR5 ((sP2 l i j).set 8 (.v (.bool b))) [] (leafK (lv3 [0, 2, 3, 4, 7] [] []) 0) = .out .normal (sP6 l i j) [] := by kernel_rfl
theorem runP7 (l i j : Nat) (b c : Bool) : execC Tryz.prog g0 100 noLam pR7 (sP7 l i j b c) [] (leafK (lv3 [0, 2, 4, 7] [] []) 0) = .out .normal (mkT 0 17 [(0, .v (yv l)), (2, .v (i64 i)), (4, .v (i64 i)), (7, .v (i64 (W ((j : Int) + 1))))]) [] := by kernel_rfl
theorem runP8 (l i j : Nat) (b : Bool) : execC Tryz.prog g0 100 noLam pR8 ((sP2 l i j).set 8 (.v (.bool b))) [] (leafK (lv3 [0, 4] [] []) 0) = .out .normal (mkT 0 17 [(0, .v (yv l)), (4, .v (i64 (W ((i : Int) + 1))))]) [] := by kernel_rfl

abbrev nu0 : Nu := fun _ => none
theorem sr_of {T : List AV} {a : Act} (X : World) (ht : TabOk (fun k => X.heap.size ≤ k) X) (h1 : ∀ t, VR nu0 (T.getD t .dead) (a.tmps.getD t undef)) (h2 : T.length ≤ a.tmps.size) : SR (fun k => X.heap.size ≤ k) X nu0 T [] a X nu0 :=
  ⟨h1, ⟨fun _ => trivial, fun _ _ _ _ _ h => (by cases h), fun _ _ h => (by cases h), fun _ _ h => (by cases h), ht⟩, Fr.refl _ _, fun _ _ h => (by cases h), h2, Le.refl _⟩
theorem TabOk.keep {w X : World} {M : Nat → Prop} (h : TabOk M w) (hk : keepR w M w X) : TabOk (fun k => X.heap.size ≤ k) X := fun x hx => by
  obtain ⟨h1, l, t, fz, h2, h3⟩ := h x hx
  have hlt := (Array.getElem?_eq_some_iff.1 h2).1
  exact ⟨fun hq => by have := hk.1; omega, l, t, fz, hk.2 x.1 _ hlt h1 h2, h3⟩
theorem keepR.refl (w : World) (M : Nat → Prop) : keepR w M w w := ⟨Nat.le_refl _, fun _ _ _ _ h => h⟩
theorem keepR.grown {w X X' : World} {M : Nat → Prop} (h : X.grownBy X' none) : keepR w M X X' := ⟨h.size, fun _ _ _ _ ho => (h.block _ (Array.getElem?_eq_some_iff.1 ho).1 (by simp)).trans ho⟩
theorem step0 {nn : Nat} {c : Code} {T T' : List AV} {lv : Ex → List Nat} {X : World} {A : Act} (hc : codeDef c = true) (hr : execC Tryz.prog g0 100 noLam c T [] (leafK lv 0) = .out .normal T' []) (hS : SR (fun k => X.heap.size ≤ k) X nu0 T [] A X nu0) (hd : A.defers = []) {Q : Exit → Act → World → Prop}
    (hQ : ∀ A' X', A'.defers = [] → SR (fun k => X'.heap.size ≤ k) X' nu0 T' [] A' X' nu0 → X.grownBy X' none → Q .normal A' X') : c.wpIn (wideR none) nn Tryz.prog Q A X := by
  refine wpIn_mono (execC_in (nn := nn) g0_ok mixed enters none [] 100 c hc (fun k => X.heap.size ≤ k) X nu0 (fun k hk => hk) _ _ _ (fun e T2 H2 => e = .normal ∧ T2 = T' ∧ H2 = []) _ X nu0 (by rw [hr]; exact ⟨rfl, rfl, rfl⟩) hS hd) ?_
  intro e A' X' hp
  obtain ⟨e', T2, H2, ν', rfl, ⟨rfl, rfl, rfl⟩, hS', hd'⟩ := leaf_post hp fun _ _ h => by cases h
  have hn : ν' = nu0 := funext fun i => by
    cases e : ν' i with
    | none => rfl
    | some b => exact absurd (hS'.dom i b e) (Nat.not_lt_zero _)
  subst hn
  exact hQ A' X' hd' (sr_of X' (hS'.heap.tab.mono fun k _ hk => Nat.le_trans hS'.fr.size hk) hS'.tmps hS'.len) ⟨hS'.fr.os, hS'.fr.tape, hS'.fr.output, hS'.fr.size, fun k hk _ => hS'.fr.block k hk (by omega)⟩

theorem yield_op2 {nn : Nat} {P : Program} {ops : Array Oper} {Q : Exit → Act → World → Prop} {i l : Nat} {o : Oper} {x y z : Operand} {ts : Array TypeId} {K : Act → World → Prop} {R : Ending → World → Prop} {a : Act} {w : World} {v u : Value} (ho : ops[i]? = some o) (hop : o.op = .call ⟨.value x, #[y, z], ts⟩) (hgu : o.guard = none)
    (hx : a.eval x = yv l) (hy : a.eval y = v) (hz : a.eval z = u) (h : YieldAt (wideR none) (nn - 1) P l #[v, u] w R) (hR : ∀ e w', R e w' → ∃ b, e = .returned b ∧ K (a.put o.dst b) w') : wpOpIn (wideR none) nn P ops Q i K a w := by
  unfold wpOpIn
  rw [ho]
  simp only
  rw [if_pos (by simp [Region.wanted, hgu])]
  refine ⟨fun _ _ => trivial, ?_⟩
  obtain ⟨fn, tmps, assign, body, e, hr⟩ := h
  have hs : (o.semAt (wideR none).round a.eval).run P w = .ok (.round l fn tmps assign body) w := by
    rw [show (wideR none).round = none from rfl, Oper.semAt_none]
    cases o with
    | mk dst op ty pos after guard =>
      simp only at hop
      subst hop
      simp [execOp, resolve, hx, hy, hz, Deferred.ofValue, invoke, e]
  rw [hs, Oper.uponIn_round]
  refine ⟨fun h => (by cases h), hr.mono fun e w' he => ?_⟩
  obtain ⟨b, rfl, hk⟩ := hR e w' he
  exact hk
theorem move_op {nn : Nat} {P : Program} {ops : Array Oper} {Q : Exit → Act → World → Prop} {i : Nat} {o : Oper} {x : Operand} {K : Act → World → Prop} {a : Act} {w : World} {v : Value} (ho : ops[i]? = some o) (hop : o.op = .move x) (hgu : o.guard = none)
    (hx : a.eval x = v) (hK : K (a.put o.dst v) w) : wpOpIn (wideR none) nn P ops Q i K a w := by
  unfold wpOpIn
  rw [ho]
  simp only
  rw [if_pos (by simp [Region.wanted, hgu])]
  refine ⟨fun _ _ => trivial, ?_⟩
  have hs : (o.semAt (wideR none).round a.eval).run P w = .ok (.value v) w := by
    rw [show (wideR none).round = none from rfl, Oper.semAt_none]
    cases o with
    | mk dst op ty pos after guard =>
      simp only at hop
      subst hop
      have he : execOp a.eval ⟨dst, .move x, ty, pos, after, guard⟩ = (do pure (.value (a.eval x))) := rfl
      rw [he, hx]
      simp
  rw [hs]
  exact hK
noncomputable def pOp (k : Nat) : Oper := pO6.toList.getD k default
theorem pOp_at0 : pO6[0]? = some (pOp 0) := by kernel_rfl
theorem pOp_at1 : pO6[1]? = some (pOp 1) := by kernel_rfl
theorem pOp_at2 : pO6[2]? = some (pOp 2) := by kernel_rfl
theorem pOp_at3 : pO6[3]? = some (pOp 3) := by kernel_rfl
theorem pOp_at4 : pO6[4]? = some (pOp 4) := by kernel_rfl
theorem pOp0 : (pOp 0).op = .move (.tmp 0) ∧ (pOp 0).guard = none ∧ (pOp 0).dst = some 10 := ⟨by kernel_rfl, by kernel_rfl, by kernel_rfl⟩
theorem pOp1 : (pOp 1).op = .move (.tmp 2) ∧ (pOp 1).guard = none ∧ (pOp 1).dst = some 11 := ⟨by kernel_rfl, by kernel_rfl, by kernel_rfl⟩
theorem pOp2 : (pOp 2).op = .move (.tmp 3) ∧ (pOp 2).guard = none ∧ (pOp 2).dst = some 12 := ⟨by kernel_rfl, by kernel_rfl, by kernel_rfl⟩
theorem pOp3 : (pOp 3).op = .call ⟨.value (.tmp 10), #[.tmp 11, .tmp 12], #[3, 3]⟩ ∧ (pOp 3).guard = none ∧ (pOp 3).dst = some 13 := ⟨by kernel_rfl, by kernel_rfl, by kernel_rfl⟩
theorem pOp4 : (pOp 4).op = .unOp .not 4 (.tmp 13) ∧ (pOp 4).guard = none ∧ (pOp 4).dst = some 14 := ⟨by kernel_rfl, by kernel_rfl, by kernel_rfl⟩
theorem pSize : List.range pO6.size = [0, 1, 2, 3, 4] := by kernel_rfl

end Go.Proofs.YtcadinbahmliiaaGreatDoor

/- The function that yields the pairs of turns: its word. Conditions: none. -/
namespace Go.Proofs.YtcadinbahmliiaaGreatDoor
open Go.RowKit
set_option maxRecDepth 100000

def enP (x : Nat) : List Value := [i64 ((x / 24 : Nat) : Int), i64 ((x % 24 : Nat) : Int)]

theorem pairs_stops {nn : Nat} {w : World} {M : Nat → Prop} (htab : TabOk M w) : SeqStopsK (wideR none) nn Tryz.prog 97 #[] (fun x => (enP x).toArray) (keepR w M) (fun xs => xs = List.range 576) (fun xs => ∃ k, k ≤ 576 ∧ xs = List.range k) 576 w := by
  intro l J Jx W hW hJ hJx hY hJ0
  have ab : ∀ {s : List Nat} {A B : World}, J s A → A.grownBy B none → J s B := fun hj hg => hJ _ _ _ none hj hg fun r e => by cases e
  let HD0 : Nat → Act → World → Prop := fun i A X => A.defers = [] ∧ SR (fun k => X.heap.size ≤ k) X nu0 (sP0 l i) [] A X nu0 ∧ J (List.range (24 * i)) X ∧ keepR w M w X
  let HD2 : Nat → Nat → Act → World → Prop := fun i j A X => A.defers = [] ∧ SR (fun k => X.heap.size ≤ k) X nu0 (sP2 l i j) [] A X nu0 ∧ J (List.range (24 * i + j)) X ∧ keepR w M w X
  refine callsIn_of_wp Tryz.func97 bodyPr trivial ?_
  have hkW : keepR w M w W := ⟨hW.size, fun k o hk _ ho => (hW.block k hk).trans ho⟩
  have hvr : VRs nu0 [.v (yv l)] [yv l] := by
    simp only [VRs, VR, and_true]
  have hst := start_sr (M := fun k => W.heap.size ≤ k) (w := W) (H := []) (fn := fPr) hvr ⟨fun _ => trivial, fun _ _ _ _ _ h => (by cases h), fun _ _ h => (by cases h), fun _ _ h => (by cases h), htab.keep hkW⟩ (fun _ _ h => by cases h)
  rw [show fPr.ntmps - [AV.v (yv l)].length = 16 from by kernel_rfl] at hst
  have fin : ∀ (A : Act) (X : World), A.defers = [] → ((J (List.range 576) X) ∨ ∃ k, k ≤ 576 ∧ Jx (List.range k) X) → bodyPost Tryz.prog fPr (fun e W' => (∃ v, e = .returned v) ∧ ((∃ xs, xs = List.range 576 ∧ J xs W') ∨ (∃ pre, (∃ k, k ≤ 576 ∧ pre = List.range k) ∧ Jx pre W'))) .ret A X := by
    intro A X hd hx
    refine ⟨hd, _, results_none rfl _ _ _, ⟨_, rfl⟩, ?_⟩
    rcases hx with hx | ⟨k, hk, hx⟩
    · exact .inl ⟨_, rfl, hx⟩
    · exact .inr ⟨_, ⟨k, hk, rfl⟩, hx⟩
  refine wpIn_seq (step0 (by kernel_rfl) (runP0 l) hst rfl fun A X hd hS hg => ?_)
  show (Code.block 0 (.loop pL0)).wpIn (wideR none) nn Tryz.prog _ A X
  refine wpIn_block (wpIn_loop (fun A X => ∃ i, i ≤ 24 ∧ HD0 i A X) (fun A _ => 24 - (intOf (A.tmps.getD 4 undef)).toNat) ⟨0, Nat.zero_le _, hd, hS, ab hJ0 hg, hkW.trans (keepR.grown hg)⟩ ?_)
  clear hd hS hg hst hvr
  have mu0 : ∀ {i : Nat} {A : Act} {X : World}, SR (fun k => X.heap.size ≤ k) X nu0 (sP0 l i) [] A X nu0 → (intOf (A.tmps.getD 4 undef)).toNat = i := by
    intro i A X h
    have := h.tmps 4
    rw [show (sP0 l i).getD 4 .dead = .v (i64 i) from by kernel_rfl] at this
    simp only [VR] at this
    rw [this]
    simp [intOf]
  have mu2 : ∀ {i j : Nat} {A : Act} {X : World}, SR (fun k => X.heap.size ≤ k) X nu0 (sP2 l i j) [] A X nu0 → (intOf (A.tmps.getD 7 undef)).toNat = j := by
    intro i j A X h
    have := h.tmps 7
    rw [show (sP2 l i j).getD 7 .dead = .v (i64 j) from by kernel_rfl] at this
    simp only [VR] at this
    rw [this]
    simp [intOf]
  rintro A X ⟨i, hi, hd, hS, hj, hkX⟩
  have hmu0 := mu0 hS
  rw [loopP0]
  refine wpIn_seq (step0 (by kernel_rfl) (runP1 l i) hS hd fun A1 X1 hd1 hS1 hg1 => ?_)
  have hj1 := ab hj hg1
  have hkX1 := hkX.trans (keepR.grown hg1)
  have hc5 : A1.eval (.tmp 5) = .bool (decide ((i : Int) < 24)) := by
    have := hS1.tmps 5
    rw [show ((sP0 l i).set 5 (.v (.bool (decide ((i : Int) < 24))))).getD 5 .dead = .v (.bool (decide ((i : Int) < 24))) from by kernel_rfl] at this
    simp only [VR] at this
    exact this
  show (Code.seq (.cond (.tmp 5) .skip (.exit 0)) _).wpIn (wideR none) nn Tryz.prog _ A1 X1
  refine wpIn_seq (wpIn_cond hc5 ?_)
  rcases (Nat.lt_or_ge i 24).symm with hge | hlt
  · rw [if_neg (by simp; omega)]
    refine wpIn_exit ?_
    have : i = 24 := by omega
    subst this
    simp only [Exit.then, Exit.inBlock, if_true]
    refine fin A1 X1 hd1 (.inl ?_)
    exact hj1
  · rw [if_pos (by simp; omega)]
    refine wpIn_skip ?_
    show (Code.seq (.block 1 _) _).wpIn (wideR none) nn Tryz.prog _ A1 X1
    refine wpIn_seq (wpIn_block (wpIn_seq (step0 (by kernel_rfl) (runP2 l i _) hS1 hd1 fun A2 X2 hd2 hS2 hg2 => ?_)))
    show (Code.seq pR3 _).wpIn (wideR none) nn Tryz.prog _ A2 X2
    refine wpIn_seq (step0 (by kernel_rfl) (runP3 l i) hS2 hd2 fun A3 X3 hd3 hS3 hg3 => ?_)
    show (Code.block 2 (.loop pL2)).wpIn (wideR none) nn Tryz.prog _ A3 X3
    refine wpIn_block (wpIn_loop (fun A X => ∃ j, j ≤ 24 ∧ HD2 i j A X) (fun A _ => 24 - (intOf (A.tmps.getD 7 undef)).toNat) ⟨0, Nat.zero_le _, hd3, hS3, ab (ab hj1 hg2) hg3, (hkX1.trans (keepR.grown hg2)).trans (keepR.grown hg3)⟩ ?_)
    clear hd3 hS3 hg3 hd2 hS2 hg2 hj1 hd1 hS1 hg1 hj hS hd hc5
    rintro A4 X4 ⟨j, hjj, hd, hS, hj, hkX4⟩
    have hmu2 := mu2 hS
    rw [loopP2]
    refine wpIn_seq (step0 (by kernel_rfl) (runP4 l i j) hS hd fun A5 X5 hd5 hS5 hg5 => ?_)
    have hj5 := ab hj hg5
    have hkX5 := hkX4.trans (keepR.grown hg5)
    have hc8 : A5.eval (.tmp 8) = .bool (decide ((j : Int) < 24)) := by
      have := hS5.tmps 8
      rw [show ((sP2 l i j).set 8 (.v (.bool (decide ((j : Int) < 24))))).getD 8 .dead = .v (.bool (decide ((j : Int) < 24))) from by kernel_rfl] at this
      simp only [VR] at this
      exact this
    show (Code.seq (.cond (.tmp 8) .skip (.exit 2)) _).wpIn (wideR none) nn Tryz.prog _ A5 X5
    refine wpIn_seq (wpIn_cond hc8 ?_)
    rcases (Nat.lt_or_ge j 24).symm with hge | hlt2
    · rw [if_neg (by simp; omega)]
      refine wpIn_exit ?_
      have : j = 24 := by omega
      subst this
      simp only [Exit.then, Exit.inBlock, if_true]
      show pR8.wpIn (wideR none) nn Tryz.prog _ A5 X5
      refine step0 (T' := sP0 l (i + 1)) (lv := lv3 [0, 4] [] []) (by kernel_rfl) ?_ hS5 hd5 fun A6 X6 hd6 hS6 hg6 => ?_
      · have := runP8 l i 24 (decide (((24 : Nat) : Int) < 24))
        rw [show Go.Proofs.YtcadinbahmliiaaGreatDoor.W ((i : Int) + 1) = ((i + 1 : Nat) : Int) from by rw [w64_in (by omega) (by omega)]; omega] at this
        exact this
      · refine ⟨⟨i + 1, hlt, hd6, hS6, ?_, hkX5.trans (keepR.grown hg6)⟩, ?_⟩
        · rw [show 24 * (i + 1) = 24 * i + 24 by omega]
          exact ab hj5 hg6
        · rw [mu0 hS6, hmu0]
          omega
    · rw [if_pos (by simp; omega)]
      refine wpIn_skip ?_
      show (Code.seq (.block 3 _) _).wpIn (wideR none) nn Tryz.prog _ A5 X5
      refine wpIn_seq (wpIn_block (wpIn_seq (step0 (by kernel_rfl) (runP5 l i j _) hS5 hd5 fun A6 X6 hd6 hS6 hg6 => ?_)))
      have hj6 := ab hj5 hg6
      have hkX6 := hkX5.trans (keepR.grown hg6)
      show (Code.seq (.region 6 pO6 false) _).wpIn (wideR none) nn Tryz.prog _ A6 X6
      refine wpIn_seq (wpIn_region ?_)
      rw [pSize]
      have at6 : ∀ {t : Nat} {v : Value}, (sP6 l i j).getD t .dead = .v v → A6.eval (.tmp t) = v := fun {t v} h => by
        have := hS6.tmps t
        rw [h] at this
        simp only [VR] at this
        exact this
      have hsz : 17 ≤ A6.tmps.size := hS6.len
      have hp : 24 * i + j < 576 := by omega
      have hyl := hY (List.range (24 * i + j)) (24 * i + j) X6 hj6 (by rw [List.length_range]; exact hp)
      have htake : List.range (24 * i + j + 1) = List.range (24 * i + j) ++ [24 * i + j] := List.range_succ
      have hen : (enP (24 * i + j)).toArray = #[i64 i, i64 j] := by
        unfold enP
        rw [show (24 * i + j) / 24 = i by omega, show (24 * i + j) % 24 = j by omega]
      simp only [hen] at hyl
      rw [wpOpsIn_cons]
      refine move_op pOp_at0 pOp0.1 pOp0.2.1 (at6 (t := 0) (v := yv l) (by kernel_rfl)) ?_
      rw [pOp0.2.2, wpOpsIn_cons]
      have ev : ∀ {B : Act} {d t : Nat} {v : Value}, d ≠ t → (B.put (some d) v).eval (.tmp t) = B.eval (.tmp t) := fun {B d t v} hne => by
        show (B.put (some d) v).tmps.getD t undef = B.tmps.getD t undef
        simp [Act.put, Array.getD_eq_getD_getElem?, hne]
      have es : ∀ {B : Act} {d : Nat} {v : Value}, d < B.tmps.size → (B.put (some d) v).eval (.tmp d) = v := fun {B d v} hlt => by
        show (B.put (some d) v).tmps.getD d undef = v
        simp [Act.put, Array.getD_eq_getD_getElem?, hlt]
      have sz : ∀ {B : Act} {d : Nat} {v : Value}, (B.put (some d) v).tmps.size = B.tmps.size := fun {B d v} => put_size' ..
      refine move_op pOp_at1 pOp1.1 pOp1.2.1 (v := i64 i) ((ev (by decide)).trans (at6 (by kernel_rfl))) ?_
      rw [pOp1.2.2, wpOpsIn_cons]
      refine move_op pOp_at2 pOp2.1 pOp2.2.1 (v := i64 j) ((ev (by decide)).trans ((ev (by decide)).trans (at6 (by kernel_rfl)))) ?_
      rw [pOp2.2.2, wpOpsIn_cons]
      refine yield_op2 pOp_at3 pOp3.1 pOp3.2.1 (l := l) (v := i64 i) (u := i64 j) ((ev (by decide)).trans ((ev (by decide)).trans (es (by omega)))) ((ev (by decide)).trans (es (by rw [sz]; omega))) (es (by rw [sz, sz]; omega)) hyl ?_
      have after : ∀ (b : Bool) (X7 : World), TabOk (fun k => X7.heap.size ≤ k) X7 → SR (fun k => X7.heap.size ≤ k) X7 nu0 (sP7 l i j b (!b)) [] (((((A6.put (some 10) (yv l)).put (some 11) (i64 i)).put (some 12) (i64 j)).put (some 13) (.bool b)).put (some 14) (.bool (!b))) X7 nu0 := fun b X7 ht => by
        have h0 := sr_of X7 ht hS6.tmps hS6.len
        have h1 := SR.put (dst := some 10) (x := .v (yv l)) (v := yv l) h0 (by kernel_rfl) (Le.refl _) (by simp only [VR]) h0.heap h0.fr h0.dom
        have h2 := SR.put (dst := some 11) (x := .v (i64 i)) (v := i64 i) h1 (by kernel_rfl) (Le.refl _) (by simp only [VR]) h1.heap h1.fr h1.dom
        have h3 := SR.put (dst := some 12) (x := .v (i64 j)) (v := i64 j) h2 (by kernel_rfl) (Le.refl _) (by simp only [VR]) h2.heap h2.fr h2.dom
        have h4 := SR.put (dst := some 13) (x := .v (.bool b)) (v := .bool b) h3 (by kernel_rfl) (Le.refl _) (by simp only [VR]) h3.heap h3.fr h3.dom
        exact SR.put (dst := some 14) (x := .v (.bool (!b))) (v := .bool (!b)) h4 (by kernel_rfl) (Le.refl _) (by simp only [VR]) h4.heap h4.fr h4.dom
      rintro e X7 (⟨rfl, hj7, hk7⟩ | ⟨rfl, hjx⟩)
      · refine ⟨.bool true, rfl, ?_⟩
        rw [pOp3.2.2, wpOpsIn_cons]
        refine not_op pOp_at4 pOp4.1 pOp4.2.1 (b := true) (es (by rw [sz, sz, sz]; omega)) ?_
        rw [pOp4.2.2]
        show (Code.cond (.tmp 14) .ret .skip).wpIn (wideR none) nn Tryz.prog _ _ X7
        refine wpIn_cond_false (es (by rw [sz, sz, sz, sz]; omega)) (wpIn_skip ?_)
        show pR7.wpIn (wideR none) nn Tryz.prog _ _ X7
        refine step0 (T' := sP2 l i (j + 1)) (lv := lv3 [0, 2, 4, 7] [] []) (by kernel_rfl) ?_ (after true X7 (htab.keep (hkX6.trans hk7))) (by rw [put_defers', put_defers', put_defers', put_defers', put_defers']; exact hd6) fun A8 X8 hd8 hS8 hg8 => ?_
        · have := runP7 l i j true (!true)
          rw [show Go.Proofs.YtcadinbahmliiaaGreatDoor.W ((j : Int) + 1) = ((j + 1 : Nat) : Int) from by rw [w64_in (by omega) (by omega)]; omega] at this
          exact this
        · refine ⟨⟨j + 1, hlt2, hd8, hS8, ?_, (hkX6.trans hk7).trans (keepR.grown hg8)⟩, ?_⟩
          · rw [← Nat.add_assoc, htake]
            exact ab hj7 hg8
          · rw [mu2 hS8, hmu2]
            omega
      · refine ⟨.bool false, rfl, ?_⟩
        rw [pOp3.2.2, wpOpsIn_cons]
        refine not_op pOp_at4 pOp4.1 pOp4.2.1 (b := false) (es (by rw [sz, sz, sz]; omega)) ?_
        rw [pOp4.2.2]
        show (Code.cond (.tmp 14) .ret .skip).wpIn (wideR none) nn Tryz.prog _ _ X7
        refine wpIn_cond_true (es (by rw [sz, sz, sz, sz]; omega)) (wpIn_ret (fin _ X7 (by rw [put_defers', put_defers', put_defers', put_defers', put_defers']; exact hd6) (.inr ⟨24 * i + j + 1, by omega, by rw [htake]; exact hjx⟩)))

end Go.Proofs.YtcadinbahmliiaaGreatDoor

/- Products of designs: CycTimes of both, DesignTimes of both: trees. Conditions: two lists of wheels. -/
namespace Go.Proofs.YtcadinbahmliiaaGreatDoor
open Go.RowKit
set_option maxRecDepth 100000

abbrev hpTr (m : Nat) (f : Nat → Nat → Int) (n : Nat) (g : Nat → Nat → Int) : List AB := [.row false m 9 (row9 f) 75, .row false n 9 (row9 g) 75]
def gmS2 (okd : List Wh → Bool) (ti : List Wh → List Wh) (okt : List Wh → Bool) : Gam := ext (ext g0 100 (specR md_ws (FdvO okd))) 101 (specR md_ws (FtidyO ti okt))
end Go.Proofs.YtcadinbahmliiaaGreatDoor

/- Products of designs: CycTimes of both, DesignTimes of both. Conditions: two lists of wheels. -/
namespace Go.Proofs.YtcadinbahmliiaaGreatDoor
open Go.RowKit
set_option maxRecDepth 100000

end Go.Proofs.YtcadinbahmliiaaGreatDoor

/- DesignTimes of both. Conditions: two lists of wheels. -/
namespace Go.Proofs.YtcadinbahmliiaaGreatDoor
open Go.RowKit
set_option maxRecDepth 100000

theorem gmS2_ok : GamOk Tryz.prog (gmS2 okD tidyL okT) := by
  unfold gmS2
  rw [FtidyO_eq, FdvO_eq]
  exact ext_ok (ext_ok g0_ok ok_dv) ok_tidyS

end Go.Proofs.YtcadinbahmliiaaGreatDoor

/- impl.at, and the program's DesignAt: the reference's word. Conditions: a list of wheels. -/
namespace Go.Proofs.YtcadinbahmliiaaGreatDoor
open Go.RowKit
set_option maxRecDepth 100000

end Go.Proofs.YtcadinbahmliiaaGreatDoor

/- DesignAt of the program; DesignClosed of both: the whole. Conditions: a list of wheels. -/
namespace Go.Proofs.YtcadinbahmliiaaGreatDoor
open Go.RowKit
set_option maxRecDepth 100000

theorem map_Ti (L : List Wh) : mpTi L = L := by
  show L.map chTi = L
  exact List.map_id'' (fun _ => rfl) L
theorem yesTi_eq (L : List Wh) : yesTi L = (okD L && okT L) := by
  have := map_Ti L
  unfold yesTi
  rw [show L.map chTi = L from this]
end Go.Proofs.YtcadinbahmliiaaGreatDoor

/- Lists of wheels compared: slices.Equal, l5Equal. Conditions: two lists of wheels. -/
namespace Go.Proofs.YtcadinbahmliiaaGreatDoor
open Go.RowKit
set_option maxRecDepth 100000

noncomputable abbrev fSE : Func := Tryz.f67
abbrev lvSE : Ex → List Nat := lv3 [0, 1, 12, 13] [] [4]
theorem rndSE_h (m : Nat) (f h : Nat → Nat → Int) (i : Nat) (u1 : _) (hu1 : [AB.row false m 9 (row9 f) 75, AB.row false m 9 (row9 h) 75] = u1) (u2 : _) (hu2 : (0 : Nat) = u2) (u3 : _) (hu3 : (↑i : Int) = u3) (u0 : _) (hu0 : (u2 + Int.toNat u3) = u0) : execC Tryz.prog g0 100 noLam (loopAt 0 fSE) (mkT 0 26 ((lvSE .normal).zip [.sl 0 9 0 0 m none, .sl 1 9 0 0 m none, .v (i64 m), .v (i64 i)])) (hpQW m f h) (leafV 26 lvSE 2)
    = bif decide (u3 < (m : Int)) then needs [decide (u3 < (m : Int)), decide (u2 + Int.toNat u3 < m), decide (u3 < (m : Int)), decide (u2 + Int.toNat u3 < m)] (bif !(f u0 u2 == h u0 u2 && (f u0 (1 : Nat) == h u0 (1 : Nat) && (f u0 (2 : Nat) == h u0 (2 : Nat) && (f u0 (3 : Nat) == h u0 (3 : Nat) && (f u0 (4 : Nat) == h u0 (4 : Nat) && (f u0 (5 : Nat) == h u0 (5 : Nat) && (f u0 (6 : Nat) == h u0 (6 : Nat) && (f u0 (7 : Nat) == h u0 (7 : Nat) && (f u0 (8 : Nat) == h u0 (8 : Nat) && true))))))) && true && true)) then Res.out .ret [AV.v (.bool false)] u1 else Res.out .normal [AV.sl u2 (9 : Nat) u2 u2 m none, AV.sl 1 (9 : Nat) u2 u2 m none, AV.v (.int .i64 (m : Int)), AV.v (.int .i64 (IntKind.wrap .i64 (u3 + (1 : Int))))] u1) else Res.out (Ex.exit u2) [] u1 := by
  subst hu0 hu3 hu2 hu1
  kernel_rfl
theorem rndSE (m : Nat) (f h : Nat → Nat → Int) (i : Nat) : type_of% (rndSE_h m f h i _ rfl _ rfl _ rfl _ rfl) := rndSE_h m f h i _ rfl _ rfl _ rfl _ rfl

noncomputable abbrev lamSE (m : Nat) (f h : Nat → Nat → Int) (c : Bool) : Nat → Option Sum := oneL 0 (atS 26 (lvSE .normal) 2 [.sl 0 9 0 0 m none, .sl 1 9 0 0 m none, .v (i64 m), .v (i64 (0 : Nat))] (hpQW m f h) (fun K => cond c (K .normal (mkT 0 26 []) (hpQW m f h)) (K .ret (mkT 0 26 [(4, .v (.bool false))]) (hpQW m f h))))
theorem treeSE (m n : Nat) (f h : Nat → Nat → Int) (c : Bool) : execF Tryz.prog g0 (lamSE m f h c) 100 fSE [.sl 0 9 0 0 m none, .sl 1 9 0 0 n none] [.row false m 9 (row9 f) 75, .row false n 9 (row9 h) 75] (packK 2)
    = bif (m : Int) != (↑n : Int) then Res.out .ret [AV.v (.bool false)] [AB.row false m 9 (row9 f) 75, AB.row false n 9 (row9 h) 75] else needs [chk ([AV.sl 0 (9 : Nat) (0 : Nat) (0 : Nat) m none, AV.sl 1 (9 : Nat) (0 : Nat) (0 : Nat) n none, AV.v (.int .i64 (m : Int)), AV.v (.int .i64 0)] = [AV.sl 0 (9 : Nat) (0 : Nat) (0 : Nat) m none, AV.sl 1 (9 : Nat) (0 : Nat) (0 : Nat) m none, AV.v (.int .i64 (m : Int)), AV.v (.int .i64 0)] ∧ Hsim [AB.row false m 9 (row9 f) 75, AB.row false n 9 (row9 h) 75] (hpQW m f h))] (bif c then Res.out .ret [AV.v (.bool true)] [AB.row false m 9 (row9 f) 75, AB.row false m 9 (row9 h) 75] else Res.out .ret [AV.v (.bool false)] [AB.row false m 9 (row9 f) 75, AB.row false m 9 (row9 h) 75]) := by kernel_rfl

abbrev lvLE : Ex → List Nat := lv3 [0, 1, 5] [] [4]
theorem rndLE_h (m : Nat) (f h : Nat → Nat → Int) (i : Nat) (u1 : _) (hu1 : [AB.row false m 9 (row9 f) 75, AB.row false m 9 (row9 h) 75] = u1) (u2 : _) (hu2 : (0 : Nat) = u2) (u3 : _) (hu3 : (↑i : Int) = u3) (u0 : _) (hu0 : (u2 + Int.toNat u3) = u0) : execC Tryz.prog g0 100 noLam (loopAt 0 Tryz.f137) (mkT 0 26 ((lvLE .normal).zip [.sl 0 9 0 0 m none, .sl 1 9 0 0 m none, .v (i64 i)])) (hpQW m f h) (leafV 26 lvLE 2)
    = bif decide (u3 < (m : Int)) then needs [decide (u3 < (m : Int)), decide (u2 + Int.toNat u3 < m), decide (u3 < (m : Int)), decide (u2 + Int.toNat u3 < m)] (bif !(f u0 u2 == h u0 u2 && (f u0 (1 : Nat) == h u0 (1 : Nat) && (f u0 (2 : Nat) == h u0 (2 : Nat) && (f u0 (3 : Nat) == h u0 (3 : Nat) && (f u0 (4 : Nat) == h u0 (4 : Nat) && (f u0 (5 : Nat) == h u0 (5 : Nat) && (f u0 (6 : Nat) == h u0 (6 : Nat) && (f u0 (7 : Nat) == h u0 (7 : Nat) && (f u0 (8 : Nat) == h u0 (8 : Nat) && true))))))) && true && true)) then Res.out .ret [AV.v (.bool false)] u1 else Res.out .normal [AV.sl u2 (9 : Nat) u2 u2 m none, AV.sl 1 (9 : Nat) u2 u2 m none, AV.v (.int .i64 (IntKind.wrap .i64 (u3 + (1 : Int))))] u1) else Res.out (Ex.exit u2) [] u1 := by
  subst hu0 hu3 hu2 hu1
  kernel_rfl
theorem rndLE (m : Nat) (f h : Nat → Nat → Int) (i : Nat) : type_of% (rndLE_h m f h i _ rfl _ rfl _ rfl _ rfl) := rndLE_h m f h i _ rfl _ rfl _ rfl _ rfl

noncomputable abbrev lamLE (m : Nat) (f h : Nat → Nat → Int) (c : Bool) : Nat → Option Sum := oneL 0 (atS 26 (lvLE .normal) 2 [.sl 0 9 0 0 m none, .sl 1 9 0 0 m none, .v (i64 (0 : Nat))] (hpQW m f h) (fun K => cond c (K .normal (mkT 0 26 []) (hpQW m f h)) (K .ret (mkT 0 26 [(4, .v (.bool false))]) (hpQW m f h))))
theorem treeLE_h (m n : Nat) (f h : Nat → Nat → Int) (c : Bool) (u0 : _) (hu0 : (AB.row false m 9 (row9 f) 75) = u0) (u1 : _) (hu1 : (0 : Nat) = u1) (u2 : _) (hu2 : [u0, AB.row false m 9 (row9 h) 75] = u2) (u3 : _) (hu3 : [u0, AB.row false n 9 (row9 h) 75] = u3) : execF Tryz.prog g0 (lamLE m f h c) 100 Tryz.f137 [.sl 0 9 0 0 m none, .sl 1 9 0 0 n none] [.row false m 9 (row9 f) 75, .row false n 9 (row9 h) 75] (packK 2)
    = bif (m : Int) != (↑n : Int) then Res.out .ret [AV.v (.bool false)] u3 else needs [chk ([AV.sl u1 (9 : Nat) u1 u1 m none, AV.sl 1 (9 : Nat) u1 u1 n none, AV.v (.int .i64 0)] = [AV.sl u1 (9 : Nat) u1 u1 m none, AV.sl 1 (9 : Nat) u1 u1 m none, AV.v (.int .i64 0)] ∧ Hsim u3 (hpQW m f h))] (bif c then Res.out .ret [AV.v (.bool true)] u2 else Res.out .ret [AV.v (.bool false)] u2) := by
  subst hu3 hu2 hu1 hu0
  kernel_rfl
theorem treeLE (m n : Nat) (f h : Nat → Nat → Int) (c : Bool) : type_of% (treeLE_h m n f h c _ rfl _ rfl _ rfl _ rfl) := treeLE_h m n f h c _ rfl _ rfl _ rfl _ rfl

def gmS3 (yT yL : Int → List Wh → Bool) (tT tL : Int → List Wh → List Wh) (eq : List Wh → List Wh → Bool) : Gam := ext (ext (ext g0 67 (specR md_eqWS (FeqB eq))) 98 (specU md_wv (UO1 yL tL))) 99 (specU md_wv (UO1 yT tT))
end Go.Proofs.YtcadinbahmliiaaGreatDoor

/- DesignStill of both: trees. Conditions: a list of wheels. -/
namespace Go.Proofs.YtcadinbahmliiaaGreatDoor
open Go.RowKit
set_option maxRecDepth 100000

def gmR3 (ok : Int → Int → Int → Bool → List Wh → Bool) (el : Int → Int → Int → Bool → List Wh → List Wh) (eq : List Wh → List Wh → Bool) : Gam := ext (ext g0 137 (specR md_eqWS (FeqB eq))) 96 (specR md_ea (FeaO ok el))
end Go.Proofs.YtcadinbahmliiaaGreatDoor

/- Lists compared; the program's turned designs read as the reference's. Conditions: lists of wheels. -/
namespace Go.Proofs.YtcadinbahmliiaaGreatDoor
open Go.RowKit
set_option maxRecDepth 100000

theorem sumSE (m : Nat) (f h : Nat → Nat → Int) (hm : m ≤ 2 ^ 40) :
    SumOk Tryz.prog 2 (.block 0 (.loop (loopAt 0 fSE))) (atS 26 (lvSE .normal) 2 [.sl 0 9 0 0 m none, .sl 1 9 0 0 m none, .v (i64 m), .v (i64 (0 : Nat))] (hpQW m f h) (fun K => cond (noneTo (badE f h) m) (K .normal (mkT 0 26 []) (hpQW m f h)) (K .ret (mkT 0 26 [(4, .v (.bool false))]) (hpQW m f h)))) := by
  refine for_at g0_ok (n := 100) (m := 2) (lv := lvSE) (fun i => [.sl 0 9 0 0 m none, .sl 1 9 0 0 m none, .v (i64 m), .v (i64 (i : Nat))]) (fun _ => hpQW m f h) (fun i => noneTo (badE f h) i = true) m (fun _ => noLam) (lv3_ris rfl rfl rfl) (Nat.le_refl _) rfl fun K Q hk i hi him => ⟨noLam_ok _ _ _, ?_⟩
  rw [rndSE]
  refine good_cond (fun c1 => ?_) fun c1 => ?_
  · have c1 := of_decide_eq_true c1
    have c1' : i < m := by omega
    rw [Int.toNat_natCast, Nat.zero_add, wr_in (x := (i : Int) + 1) (by omega)]
    refine good_needs (by simp only [ob_cons, ob_nil, and_true, decide_eq_true_eq]; omega) (good_cond (fun q => ?_) fun q => ?_)
    · have hb : badE f h i = true := by
        unfold badE
        rw [Bool.not_eq_true', decide_eq_false_iff_not]
        intro e
        simp only [whOf, Wh.mk.injEq, Cy.mk.injEq] at e
        obtain ⟨e0, e1, e2, e3, e4, e5, e6, e7, e8⟩ := e
        simp [e0, e1, e2, e3, e4, e5, e6, e7, e8] at q
      refine good_out ⟨_, Hsim.refl _, ?_⟩
      rw [noneTo_no c1' hb] at hk
      exact hk
    · have hb : badE f h i = false := by
        unfold badE
        rw [Bool.not_eq_false', decide_eq_true_eq]
        simp at q
        simp [whOf, q]
      exact good_out ⟨i + 1, ⟨rfl, c1', noneTo_succ hi hb⟩, rfl, Hsim.refl _⟩
  · have c1 := of_decide_eq_false c1
    have : i = m := by omega
    subst this
    refine good_out ⟨_, Hsim.refl _, ?_⟩
    rw [if_pos rfl]
    rw [hi] at hk
    exact hk
theorem ok_SE : SpecOk Tryz.prog 67 (specR md_eqWS (FeqB eqL)) := by
  refine specR_hr g0_ok Tryz.func67 rfl fun sas fr hF ho => ?_
  unfold FeqB at hF
  split at hF
  · rename_i m g n g2
    cases hF
    simp only [ob_cons] at ho
    obtain ⟨h1, h2, h3, _⟩ := ho
    have hm := of_decide_eq_true h3
    refine ⟨[.row false m 9 (row9 (itW g)) 75, .row false n 9 (row9 (itW g2)) 75], lamSE m (itW g) (itW g2) (noneTo (badE (itW g) (itW g2)) m), 100, .cons (ABeq.row fun j hj => allW_get h1 j hj) (.cons (ABeq.row fun j hj => allW_get h2 j hj) .nil), lam1 (by kernel_rfl) (sumSE m (itW g) (itW g2) (by omega)), ?_⟩
    show GoodQ (execF Tryz.prog g0 (lamSE m (itW g) (itW g2) (noneTo (badE (itW g) (itW g2)) m)) 100 fSE [.sl 0 9 0 0 m none, .sl 1 9 0 0 n none] [.row false m 9 (row9 (itW g)) 75, .row false n 9 (row9 (itW g2)) 75] (packK 2)) _
    rw [treeSE]
    refine good_cond (fun q => ?_) fun q => ?_
    · have hne : m ≠ n := fun e => by
        subst e
        simp at q
      exact good_out ⟨_, rfl, by rw [eqL_len (by rw [listW_length, listW_length]; exact hne)], .cons (ABeq.row fun j hj => (allW_get h1 j hj).symm) (.cons (ABeq.row fun j hj => (allW_get h2 j hj).symm) .nil)⟩
    · have e : m = n := by
        have q2 : (m : Int) = n := by simpa using q
        omega
      subst e
      refine good_needs (by rw [ob_cons]; exact ⟨chk_of ⟨rfl, Hsim.refl _⟩, rfl⟩) (good_cond (fun q => ?_) fun q => ?_)
      · exact good_out ⟨_, rfl, by rw [eqL_list, q], .cons (ABeq.row fun j hj => (allW_get h1 j hj).symm) (.cons (ABeq.row fun j hj => (allW_get h2 j hj).symm) .nil)⟩
      · exact good_out ⟨_, rfl, by rw [eqL_list, q], .cons (ABeq.row fun j hj => (allW_get h1 j hj).symm) (.cons (ABeq.row fun j hj => (allW_get h2 j hj).symm) .nil)⟩
  · cases hF

theorem sumLE (m : Nat) (f h : Nat → Nat → Int) (hm : m ≤ 2 ^ 40) :
    SumOk Tryz.prog 2 (.block 0 (.loop (loopAt 0 Tryz.f137))) (atS 26 (lvLE .normal) 2 [.sl 0 9 0 0 m none, .sl 1 9 0 0 m none, .v (i64 (0 : Nat))] (hpQW m f h) (fun K => cond (noneTo (badE f h) m) (K .normal (mkT 0 26 []) (hpQW m f h)) (K .ret (mkT 0 26 [(4, .v (.bool false))]) (hpQW m f h)))) := by
  refine for_at g0_ok (n := 100) (m := 2) (lv := lvLE) (fun i => [.sl 0 9 0 0 m none, .sl 1 9 0 0 m none, .v (i64 (i : Nat))]) (fun _ => hpQW m f h) (fun i => noneTo (badE f h) i = true) m (fun _ => noLam) (lv3_ris rfl rfl rfl) (Nat.le_refl _) rfl fun K Q hk i hi him => ⟨noLam_ok _ _ _, ?_⟩
  rw [rndLE]
  refine good_cond (fun c1 => ?_) fun c1 => ?_
  · have c1 := of_decide_eq_true c1
    have c1' : i < m := by omega
    rw [Int.toNat_natCast, Nat.zero_add, wr_in (x := (i : Int) + 1) (by omega)]
    refine good_needs (by simp only [ob_cons, ob_nil, and_true, decide_eq_true_eq]; omega) (good_cond (fun q => ?_) fun q => ?_)
    · have hb : badE f h i = true := by
        unfold badE
        rw [Bool.not_eq_true', decide_eq_false_iff_not]
        intro e
        simp only [whOf, Wh.mk.injEq, Cy.mk.injEq] at e
        obtain ⟨e0, e1, e2, e3, e4, e5, e6, e7, e8⟩ := e
        simp [e0, e1, e2, e3, e4, e5, e6, e7, e8] at q
      refine good_out ⟨_, Hsim.refl _, ?_⟩
      rw [noneTo_no c1' hb] at hk
      exact hk
    · have hb : badE f h i = false := by
        unfold badE
        rw [Bool.not_eq_false', decide_eq_true_eq]
        simp at q
        simp [whOf, q]
      exact good_out ⟨i + 1, ⟨rfl, c1', noneTo_succ hi hb⟩, rfl, Hsim.refl _⟩
  · have c1 := of_decide_eq_false c1
    have : i = m := by omega
    subst this
    refine good_out ⟨_, Hsim.refl _, ?_⟩
    rw [if_pos rfl]
    rw [hi] at hk
    exact hk
theorem ok_LE : SpecOk Tryz.prog 137 (specR md_eqWS (FeqB eqL)) := by
  refine specR_hr g0_ok Tryz.func137 rfl fun sas fr hF ho => ?_
  unfold FeqB at hF
  split at hF
  · rename_i m g n g2
    cases hF
    simp only [ob_cons] at ho
    obtain ⟨h1, h2, h3, _⟩ := ho
    have hm := of_decide_eq_true h3
    refine ⟨[.row false m 9 (row9 (itW g)) 75, .row false n 9 (row9 (itW g2)) 75], lamLE m (itW g) (itW g2) (noneTo (badE (itW g) (itW g2)) m), 100, .cons (ABeq.row fun j hj => allW_get h1 j hj) (.cons (ABeq.row fun j hj => allW_get h2 j hj) .nil), lam1 (by kernel_rfl) (sumLE m (itW g) (itW g2) (by omega)), ?_⟩
    show GoodQ (execF Tryz.prog g0 (lamLE m (itW g) (itW g2) (noneTo (badE (itW g) (itW g2)) m)) 100 Tryz.f137 [.sl 0 9 0 0 m none, .sl 1 9 0 0 n none] [.row false m 9 (row9 (itW g)) 75, .row false n 9 (row9 (itW g2)) 75] (packK 2)) _
    rw [treeLE]
    refine good_cond (fun q => ?_) fun q => ?_
    · have hne : m ≠ n := fun e => by
        subst e
        simp at q
      exact good_out ⟨_, rfl, by rw [eqL_len (by rw [listW_length, listW_length]; exact hne)], .cons (ABeq.row fun j hj => (allW_get h1 j hj).symm) (.cons (ABeq.row fun j hj => (allW_get h2 j hj).symm) .nil)⟩
    · have e : m = n := by
        have q2 : (m : Int) = n := by simpa using q
        omega
      subst e
      refine good_needs (by rw [ob_cons]; exact ⟨chk_of ⟨rfl, Hsim.refl _⟩, rfl⟩) (good_cond (fun q => ?_) fun q => ?_)
      · exact good_out ⟨_, rfl, by rw [eqL_list, q], .cons (ABeq.row fun j hj => (allW_get h1 j hj).symm) (.cons (ABeq.row fun j hj => (allW_get h2 j hj).symm) .nil)⟩
      · exact good_out ⟨_, rfl, by rw [eqL_list, q], .cons (ABeq.row fun j hj => (allW_get h1 j hj).symm) (.cons (ABeq.row fun j hj => (allW_get h2 j hj).symm) .nil)⟩
  · cases hF

theorem gmS3_ok : GamOk Tryz.prog (gmS3 yT yL tT tL eqL) := ext_ok (ext_ok (ext_ok g0_ok ok_SE) ok_ULa) ok_UTu
theorem gmR3_ok : GamOk Tryz.prog (gmR3 eachOk eachL eqL) := ext_ok (ext_ok g0_ok ok_LE) ok_each

end Go.Proofs.YtcadinbahmliiaaGreatDoor

/- The program's DesignAkin: its trees. Conditions: two lists of wheels. -/
namespace Go.Proofs.YtcadinbahmliiaaGreatDoor
open Go.RowKit
set_option maxRecDepth 100000

noncomputable abbrev fAk : Func := Tryz.f34
noncomputable def bAk : Code := fAk.body.getD .skip
def sqN : Nat → Code → Code
  | 0, c => c
  | n + 1, c => sqN n (sqB c)
def rgA : Code → Code | .rangeFunc _ _ a _ => a | c => c
def rgB : Code → Code | .rangeFunc _ _ _ b => b | c => c
def scB : Code → Code | .scope b => b | c => c
noncomputable def akB1 : Code := scB (sqB bAk)
noncomputable def akPre0 : List Code := [sqA bAk]
noncomputable def akPre : List Code := [sqA akB1, sqA (sqN 1 akB1), sqA (sqN 2 akB1), sqA (sqN 3 akB1), sqA (sqN 4 akB1)]
noncomputable def akP2 : Code := sqA (sqA (sqN 5 akB1))
noncomputable def akAs : Code := rgA (blB (sqB (sqA (sqN 5 akB1))))
noncomputable def akBd : Code := rgB (blB (sqB (sqA (sqN 5 akB1))))
noncomputable def akRest : Code := sqN 6 akB1
theorem bAk_eq : fAk.body = some (nestL akPre0 (.scope (nestL akPre (.seq (.seq akP2 (.block 0 (.rangeFunc (.tmp 31) #[32, 33] akAs akBd))) akRest)))) := by kernel_rfl

def gmAkI (yes : List Wh → Bool) (ti mp : List Wh → List Wh) (yT yL : Int → List Wh → Bool) (tT tL : Int → List Wh → List Wh) (eq : List Wh → List Wh → Bool) : Gam := ext (gmS3 yT yL tT tL eq) 46 (specR md_ws (FdeYTi yes ti mp))
theorem preAk_h (yes : List Wh → Bool) (ti mp : List Wh → List Wh) (yT yL : Int → List Wh → Bool) (tT tL : Int → List Wh → List Wh) (eq : List Wh → List Wh → Bool) (m : Nat) (f : Nat → Nat → Int) (n : Nat) (g : Nat → Nat → Int) (u0 : _) (hu0 : AV.dead = u0) (u3 : _) (hu3 : (0 : Nat) = u3) (u1 : _) (hu1 : (listW (itW fun q ↦ row9 g (u3 + q)) n) = u1) (u2 : _) (hu2 : (listW (itW fun q ↦ row9 f (u3 + q)) m) = u2) (u4 : _) (hu4 : (List.length (ti (mp u1))) = u4) (u5 : _) (hu5 : (List.length (ti (mp u2))) = u5) : execL Tryz.prog (gmAkI yes ti mp yT yL tT tL eq) 100 (akPre0 ++ (akPre ++ [akP2])) ([.sl 0 9 0 0 m none, .sl 1 9 0 0 n none] ++ List.replicate 52 (.v undef)) (hpTr m f n g) (leafK (lv3 [6, 8, 10, 31] [] []) 2)
    = needs [Nat.ble (u3 + m) m, allW m fun q ↦ row9 f (u3 + q), decide (m ≤ (274877906944 : Nat)), yes u2, Nat.ble (u3 + n) n, allW n fun q ↦ row9 g (u3 + q), decide (n ≤ (274877906944 : Nat)), yes u1] (Res.out .normal [u0, u0, u0, u0, u0, u0, AV.ptr (2 : Nat) u3 u3 u3, u0, AV.ptr (3 : Nat) u3 u3 u3, u0, AV.ptr (4 : Nat) u3 u3 u3, u0, u0, u0, u0, u0, u0, u0, u0, u0, u0, u0, u0, u0, u0, u0, u0, u0, u0, u0, u0, AV.fn (97 : Nat) [], u0, u0, u0, u0, u0, u0, u0, u0, u0, u0, u0, u0, u0, u0, u0, u0, u0, u0, u0, u0, u0, u0] [AB.row false m 9 (row9 f) 75, AB.row false n 9 (row9 g) 75, AB.cells [AV.sl 5 (9 : Nat) u3 u3 u5 (some u5)] (31 : Nat), AB.cells [AV.sl 6 (9 : Nat) u3 u3 u4 (some u4)] (31 : Nat), AB.cells [AV.v (.int .i64 (-1 : Int))] (3 : Nat), AB.row true u5 9 (row9 (wfun (ti (mp u2)))) 75, AB.row true u4 9 (row9 (wfun (ti (mp u1)))) 75]) := by
  subst hu5 hu4 hu2 hu1 hu3 hu0
  kernel_rfl
theorem preAk (yes : List Wh → Bool) (ti mp : List Wh → List Wh) (yT yL : Int → List Wh → Bool) (tT tL : Int → List Wh → List Wh) (eq : List Wh → List Wh → Bool) (m : Nat) (f : Nat → Nat → Int) (n : Nat) (g : Nat → Nat → Int) : type_of% (preAk_h yes ti mp yT yL tT tL eq m f n g _ rfl _ rfl _ rfl _ rfl _ rfl _ rfl) := preAk_h yes ti mp yT yL tT tL eq m f n g _ rfl _ rfl _ rfl _ rfl _ rfl _ rfl

abbrev hpAkI (m : Nat) (f : Nat → Nat → Int) (n : Nat) (g : Nat → Nat → Int) (q : Nat) (h : Nat → Nat → Int) (r : Nat) (u : Nat → Nat → Int) (v : Int) : List AB := [.row false m 9 (row9 f) 75, .row false n 9 (row9 g) 75, .cells [.sl 5 9 0 0 q (some q)] 31, .cells [.sl 6 9 0 0 r (some r)] 31, .cells [.v (i64 v)] 3, .row true q 9 (row9 h) 75, .row true r 9 (row9 u) 75]
abbrev TTak : List AV := mkT 0 54 [(6, .ptr 2 0 0 0), (8, .ptr 3 0 0 0), (10, .ptr 4 0 0 0), (31, .fn 97 [])]
abbrev TLak : List AV := mkT 0 54 [(6, .ptr 2 0 0 0), (8, .ptr 3 0 0 0), (10, .ptr 4 0 0 0)]
theorem rndAkI_h (yes : List Wh → Bool) (ti mp : List Wh → List Wh) (yT yL : Int → List Wh → Bool) (tT tL : Int → List Wh → List Wh) (eq : List Wh → List Wh → Bool) (m : Nat) (f : Nat → Nat → Int) (n : Nat) (g : Nat → Nat → Int) (q : Nat) (h : Nat → Nat → Int) (r : Nat) (u : Nat → Nat → Int) (x y v : Int) (u3 : _) (hu3 : AV.dead = u3) (u4 : _) (hu4 : (0 : Nat) = u4) (u5 : _) (hu5 : 75 = u5) (u6 : _) (hu6 : (9 : Nat) = u6) (u7 : _) (hu7 : (AB.cells [AV.v (.int .i64 v)] 3) = u7) (u8 : _) (hu8 : (AB.row false m u6 (row9 f) u5) = u8) (u9 : _) (hu9 : (AB.row false n u6 (row9 g) u5) = u9) (u10 : _) (hu10 : (AB.row true r u6 (row9 u) u5) = u10) (u11 : _) (hu11 : 31 = u11) (u0 : _) (hu0 : [u3, u3, u3, u3, u3, u3, u3, u3, u3, u3, u3, u3, u3, u3, u3, u3, u3, u3, u3, u3, u3, u3, u3, u3, u3, u3, u3, u3, u3, u3, u3, u3, u3, u3, u3, u3, u3, u3, u3, u3, u3, u3, u3, u3, u3, u3, u3, u3, u3, u3, u3, u3, u3, u3] = u0) (u1 : _) (hu1 : (itW fun q ↦ row9 h (u4 + q)) = u1) (u2 : _) (hu2 : (AB.cells [AV.sl 6 u6 u4 u4 r (some r)] u11) = u2) : execC Tryz.prog (gmAkI yes ti mp yT yL tT tL eq) 100 noLam akAs (parT [32, 33] [i64 x, i64 y] TLak) (hpAkI m f n g q h r u v) (andK Tryz.prog (gmAkI yes ti mp yT yL tT tL eq) 100 akBd 7)
    = needs [Nat.ble (u4 + q) q, allW q fun q ↦ row9 h (u4 + q), decide (q ≤ (274877906944 : Nat))] (bif !yL x (listW u1 q) then Res.out .normal u0 [u8, u9, AB.cells [AV.sl 5 u6 u4 u4 q (some q)] u11, u2, u7, AB.row true q u6 (row9 h) u5, u10] else needs [Nat.ble (u4 + List.length (tL x (listW u1 q))) (List.length (tL x (listW u1 q))), allW (List.length (tL x (listW u1 q))) fun q_1 ↦ row9 (wfun (tL x (listW u1 q))) (u4 + q_1), decide (List.length (tL x (listW u1 q)) ≤ (274877906944 : Nat))] (bif yT y (listW (itW fun q_1 ↦ row9 (wfun (tL x (listW u1 q))) (u4 + q_1)) (List.length (tL x (listW u1 q)))) then needs [Nat.ble (u4 + List.length (tT y (listW (itW fun q_1 ↦ row9 (wfun (tL x (listW u1 q))) (u4 + q_1)) (List.length (tL x (listW u1 q)))))) (List.length (tT y (listW (itW fun q_1 ↦ row9 (wfun (tL x (listW u1 q))) (u4 + q_1)) (List.length (tL x (listW u1 q)))))), Nat.ble (u4 + r) r, allW (List.length (tT y (listW (itW fun q_1 ↦ row9 (wfun (tL x (listW u1 q))) (u4 + q_1)) (List.length (tL x (listW u1 q)))))) fun q_1 ↦ row9 (wfun (tT y (listW (itW fun q_2 ↦ row9 (wfun (tL x (listW u1 q))) (u4 + q_2)) (List.length (tL x (listW u1 q)))))) (u4 + q_1), allW r fun q ↦ row9 u (u4 + q), decide (List.length (tT y (listW (itW fun q_1 ↦ row9 (wfun (tL x (listW u1 q))) (u4 + q_1)) (List.length (tL x (listW u1 q))))) ≤ (274877906944 : Nat))] (bif eq (listW (itW fun q_1 ↦ row9 (wfun (tT y (listW (itW fun q_2 ↦ row9 (wfun (tL x (listW u1 q))) (u4 + q_2)) (List.length (tL x (listW u1 q)))))) (u4 + q_1)) (List.length (tT y (listW (itW fun q_1 ↦ row9 (wfun (tL x (listW u1 q))) (u4 + q_1)) (List.length (tL x (listW u1 q))))))) (listW (itW fun q ↦ row9 u (u4 + q)) r) then Res.out (Ex.exit u4) u0 [u8, u9, AB.cells [AV.sl 5 u6 u4 u4 q (some q)] u11, u2, AB.cells [AV.v (.int .i64 (IntKind.wrap .i64 (IntKind.wrap .i64 ((24 : Int) * x) + y)))] 3, AB.row true q u6 (row9 h) u5, u10] else Res.out .normal u0 [u8, u9, AB.cells [AV.sl 5 u6 u4 u4 q (some q)] u11, u2, u7, AB.row true q u6 (row9 h) u5, u10]) else Res.out .normal u0 [u8, u9, AB.cells [AV.sl 5 u6 u4 u4 q (some q)] u11, u2, u7, AB.row true q u6 (row9 h) u5, u10])) := by
  subst hu2 hu1 hu0 hu11 hu10 hu9 hu8 hu7 hu6 hu5 hu4 hu3
  kernel_rfl
theorem rndAkI (yes : List Wh → Bool) (ti mp : List Wh → List Wh) (yT yL : Int → List Wh → Bool) (tT tL : Int → List Wh → List Wh) (eq : List Wh → List Wh → Bool) (m : Nat) (f : Nat → Nat → Int) (n : Nat) (g : Nat → Nat → Int) (q : Nat) (h : Nat → Nat → Int) (r : Nat) (u : Nat → Nat → Int) (x y v : Int) : type_of% (rndAkI_h yes ti mp yT yL tT tL eq m f n g q h r u x y v _ rfl _ rfl _ rfl _ rfl _ rfl _ rfl _ rfl _ rfl _ rfl _ rfl _ rfl _ rfl) := rndAkI_h yes ti mp yT yL tT tL eq m f n g q h r u x y v _ rfl _ rfl _ rfl _ rfl _ rfl _ rfl _ rfl _ rfl _ rfl _ rfl _ rfl _ rfl

theorem endAkN (yes : List Wh → Bool) (ti mp : List Wh → List Wh) (yT yL : Int → List Wh → Bool) (tT tL : Int → List Wh → List Wh) (eq : List Wh → List Wh → Bool) (m : Nat) (f : Nat → Nat → Int) (n : Nat) (g : Nat → Nat → Int) (q : Nat) (h : Nat → Nat → Int) (r : Nat) (u : Nat → Nat → Int) (v : Int) : behind Tryz.prog (gmAkI yes ti mp yT yL tT tL eq) 100 fAk 0 akRest (packK 2) .normal TLak (hpAkI m f n g q h r u v)
    = bif decide (v < (0 : Int)) then Res.out .ret [AV.tup [AV.v (.int .i64 0), AV.v (.bool false)]] [AB.row false m 9 (row9 f) 75, AB.row false n 9 (row9 g) 75] else Res.out .ret [AV.tup [AV.v (.int .i64 v), AV.v (.bool true)]] [AB.row false m 9 (row9 f) 75, AB.row false n 9 (row9 g) 75] := by kernel_rfl

theorem endAkX (yes : List Wh → Bool) (ti mp : List Wh → List Wh) (yT yL : Int → List Wh → Bool) (tT tL : Int → List Wh → List Wh) (eq : List Wh → List Wh → Bool) (m : Nat) (f : Nat → Nat → Int) (n : Nat) (g : Nat → Nat → Int) (q : Nat) (h : Nat → Nat → Int) (r : Nat) (u : Nat → Nat → Int) (v : Int) : behind Tryz.prog (gmAkI yes ti mp yT yL tT tL eq) 100 fAk 0 akRest (packK 2) (.exit 0) TLak (hpAkI m f n g q h r u v)
    = bif decide (v < (0 : Int)) then Res.out .ret [AV.tup [AV.v (.int .i64 0), AV.v (.bool false)]] [AB.row false m 9 (row9 f) 75, AB.row false n 9 (row9 g) 75] else Res.out .ret [AV.tup [AV.v (.int .i64 v), AV.v (.bool true)]] [AB.row false m 9 (row9 f) 75, AB.row false n 9 (row9 g) 75] := by kernel_rfl

end Go.Proofs.YtcadinbahmliiaaGreatDoor

/- DesignAkin of the reference: trees. Conditions: two lists of wheels. -/
namespace Go.Proofs.YtcadinbahmliiaaGreatDoor
open Go.RowKit
set_option maxRecDepth 100000

theorem treeAk_h (ok : Int → Int → Int → Bool → List Wh → Bool) (el : Int → Int → Int → Bool → List Wh → List Wh) (eq : List Wh → List Wh → Bool) (m : Nat) (f : Nat → Nat → Int) (n : Nat) (g : Nat → Nat → Int) (x y : Int) (u2 : _) (hu2 : [AB.row false m 9 (row9 f) 75, AB.row false n 9 (row9 g) 75] = u2) (u4 : _) (hu4 : (listW (itW fun q ↦ row9 f ((0 : Nat) + q)) m) = u4) (u0 : _) (hu0 : (el (1 : Int) (0 : Int) x false u4) = u0) (u3 : _) (hu3 : (List.length u0) = u3) (u1 : _) (hu1 : (el (1 : Int) y (0 : Int) false (listW (itW (row9 (wfun u0))) u3)) = u1) (u5 : _) (hu5 : (List.length u1) = u5) : execF Tryz.prog (gmR3 ok el eq) noLam 100 Tryz.f93 [.sl 0 9 0 0 m none, .sl 1 9 0 0 n none, .v (i64 x), .v (i64 y)] (hpTr m f n g) (packK 2)
    = needs [Nat.ble ((0 : Nat) + m) m, allW m fun q ↦ row9 f ((0 : Nat) + q), decide (m ≤ (274877906944 : Nat))] (bif !ok (1 : Int) (0 : Int) x false u4 then Res.out .ret [AV.v (.bool false)] u2 else needs [Nat.ble u3 u3, allW u3 (row9 (wfun u0)), decide (List.length u0 ≤ (274877906944 : Nat))] (bif ok (1 : Int) y (0 : Int) false (listW (itW (row9 (wfun u0))) u3) then needs [Nat.ble u5 u5, Nat.ble ((0 : Nat) + n) n, allW u5 (row9 (wfun u1)), allW n fun q ↦ row9 g ((0 : Nat) + q), decide (List.length u1 ≤ (274877906944 : Nat))] (Res.out .ret [AV.v (.bool (eq (listW (itW (row9 (wfun u1))) u5) (listW (itW fun q ↦ row9 g ((0 : Nat) + q)) n)))] u2) else Res.out .ret [AV.v (.bool false)] u2)) := by
  subst hu5 hu1 hu3 hu0 hu4 hu2
  kernel_rfl
theorem treeAk (ok : Int → Int → Int → Bool → List Wh → Bool) (el : Int → Int → Int → Bool → List Wh → List Wh) (eq : List Wh → List Wh → Bool) (m : Nat) (f : Nat → Nat → Int) (n : Nat) (g : Nat → Nat → Int) (x y : Int) : type_of% (treeAk_h ok el eq m f n g x y _ rfl _ rfl _ rfl _ rfl _ rfl _ rfl) := treeAk_h ok el eq m f n g x y _ rfl _ rfl _ rfl _ rfl _ rfl _ rfl

def FakO (ak : List Wh → List Wh → Int → Int → Bool) : List SA → Option FR
  | [.row m ga, .row n gb, .v (.int .i64 x), .v (.int .i64 y)] => some { val := .v (.bool (ak (listW (itW ga) m) (listW (itW gb) n) x y)), obl := [allW m ga, allW n gb, decide (m ≤ 2 ^ 38), decide (n ≤ 2 ^ 38)] }
  | _ => none
def md_ak : List Md := [.rd 9 75, .rd 9 75, .val, .val]
def gmAk (ak : List Wh → List Wh → Int → Int → Bool) : Gam := ext g0 93 (specR md_ak (FakO ak))
abbrev lvAk : Ex → List Nat := lv3 [6, 8, 10] [] [4, 5]
abbrev stAk (q r i : Nat) : List AV := [.own 2 q, .own 3 r, .v (i64 i)]
abbrev hpAk (m : Nat) (f : Nat → Nat → Int) (n : Nat) (g : Nat → Nat → Int) (q : Nat) (h : Nat → Nat → Int) (r : Nat) (u : Nat → Nat → Int) : List AB := [.row false m 9 (row9 f) 75, .row false n 9 (row9 g) 75, .row true q 9 (row9 h) 75, .row true r 9 (row9 u) 75]
theorem rndAk (ak : List Wh → List Wh → Int → Int → Bool) (m : Nat) (f : Nat → Nat → Int) (n : Nat) (g : Nat → Nat → Int) (q : Nat) (h : Nat → Nat → Int) (r : Nat) (u : Nat → Nat → Int) (i : Nat) : execC Tryz.prog (gmAk ak) 100 noLam (loopAt 0 Tryz.f59) (mkT 0 39 ((lvAk .normal).zip (stAk q r i))) (hpAk m f n g q h r u) (leafV 39 lvAk 2)
    = bif decide ((↑i : Int) < (576 : Int)) then needs [Nat.ble q q, Nat.ble r r, allW q (row9 h), allW r (row9 u), decide (q ≤ (274877906944 : Nat)), decide (r ≤ (274877906944 : Nat))] (bif ak (listW (itW (row9 h)) q) (listW (itW (row9 u)) r) (IntKind.wrap .i64 (Int.tdiv (↑i : Int) (24 : Int))) (Int.tmod (↑i : Int) (24 : Int)) then Res.out .ret [AV.v (.int .i64 (↑i : Int)), AV.v (.bool true)] [AB.row false m 9 (row9 f) 75, AB.row false n 9 (row9 g) 75] else Res.out .normal [AV.own 2 q, AV.own 3 r, AV.v (.int .i64 (IntKind.wrap .i64 ((↑i : Int) + (1 : Int))))] [AB.row false m 9 (row9 f) 75, AB.row false n 9 (row9 g) 75, AB.row true q 9 (row9 h) 75, AB.row true r 9 (row9 u) 75]) else Res.out (Ex.exit (0 : Nat)) [] [AB.row false m 9 (row9 f) 75, AB.row false n 9 (row9 g) 75] := by kernel_rfl

noncomputable abbrev lamAk (m : Nat) (f : Nat → Nat → Int) (n : Nat) (g : Nat → Nat → Int) (q : Nat) (h : Nat → Nat → Int) (r : Nat) (u : Nat → Nat → Int) (c : Bool) (x : Int) : Nat → Option Sum := oneL 0 (atS 39 (lvAk .normal) 2 (stAk q r 0) (hpAk m f n g q h r u) (fun K => cond c (K .normal (mkT 0 39 []) (hpTr m f n g)) (K .ret (mkT 0 39 [(4, .v (i64 x)), (5, .v (.bool true))]) (hpTr m f n g))))
theorem treeAkS_h (okd : List Wh → Bool) (ti : List Wh → List Wh) (okt : List Wh → Bool) (m : Nat) (f : Nat → Nat → Int) (n : Nat) (g : Nat → Nat → Int) (q : Nat) (h : Nat → Nat → Int) (r : Nat) (u : Nat → Nat → Int) (c : Bool) (x : Int) (u1 : _) (hu1 : [AV.tup [AV.v (.int .i64 0), AV.v (.bool false)]] = u1) (u5 : _) (hu5 : (0 : Nat) = u5) (u7 : _) (hu7 : 75 = u7) (u0 : _) (hu0 : [AB.row false m 9 (row9 f) u7, AB.row false n 9 (row9 g) u7] = u0) (u2 : _) (hu2 : (listW (itW fun q ↦ row9 g (u5 + q)) n) = u2) (u3 : _) (hu3 : (listW (itW fun q ↦ row9 f (u5 + q)) m) = u3) (u4 : _) (hu4 : (allW n fun q ↦ row9 g (u5 + q)) = u4) (u6 : _) (hu6 : [Nat.ble (u5 + n) n, u4, decide (n ≤ (274877906944 : Nat))] = u6) : execF Tryz.prog (gmS2 okd ti okt) (lamAk m f n g q h r u c x) 100 Tryz.f59 [.sl 0 9 0 0 m none, .sl 1 9 0 0 n none] (hpTr m f n g) (packK 2)
    = needs [Nat.ble (u5 + m) m, allW m fun q ↦ row9 f (u5 + q), decide (m ≤ (549755813888 : Nat))] (bif !okd u3 then needs [Nat.ble (u5 + n) n, u4, decide (n ≤ (549755813888 : Nat))] (bif !okd u2 then Res.out .ret u1 u0 else needs u6 (Res.out .ret u1 u0)) else needs [Nat.ble (u5 + m) m, allW m fun q ↦ row9 f (u5 + q), decide (m ≤ (274877906944 : Nat)), Nat.ble (u5 + n) n, u4, decide (n ≤ (549755813888 : Nat))] (bif !okd u2 then bif !okt u3 then Res.out .ret u1 u0 else Res.out .ret u1 u0 else needs u6 (bif !okt u3 then Res.out .ret u1 u0 else bif !okt u2 then Res.out .ret u1 u0 else needs [chk ([AV.own 2 (List.length (ti u3)), AV.own 3 (List.length (ti u2)), AV.v (.int .i64 0)] = stAk q r u5 ∧ Hsim [AB.row false m 9 (row9 f) u7, AB.row false n 9 (row9 g) u7, AB.row true (List.length (ti u3)) (9 : Nat) (row9 (wfun (ti u3))) u7, AB.row true (List.length (ti u2)) (9 : Nat) (row9 (wfun (ti u2))) u7] (hpAk m f n g q h r u))] (bif c then Res.out .ret u1 u0 else Res.out .ret [AV.tup [AV.v (.int .i64 x), AV.v (.bool true)]] u0)))) := by
  subst hu6 hu4 hu3 hu2 hu0 hu7 hu5 hu1
  kernel_rfl
theorem treeAkS (okd : List Wh → Bool) (ti : List Wh → List Wh) (okt : List Wh → Bool) (m : Nat) (f : Nat → Nat → Int) (n : Nat) (g : Nat → Nat → Int) (q : Nat) (h : Nat → Nat → Int) (r : Nat) (u : Nat → Nat → Int) (c : Bool) (x : Int) : type_of% (treeAkS_h okd ti okt m f n g q h r u c x _ rfl _ rfl _ rfl _ rfl _ rfl _ rfl _ rfl _ rfl) := treeAkS_h okd ti okt m f n g q h r u c x _ rfl _ rfl _ rfl _ rfl _ rfl _ rfl _ rfl _ rfl

end Go.Proofs.YtcadinbahmliiaaGreatDoor

/- The program's CycMirror. Conditions: a point. -/
namespace Go.Proofs.YtcadinbahmliiaaGreatDoor
open Go.RowKit
set_option maxRecDepth 100000

end Go.Proofs.YtcadinbahmliiaaGreatDoor

/- 'changed', for DesignFaster: trees. Conditions: a list of wheels. -/
namespace Go.Proofs.YtcadinbahmliiaaGreatDoor
open Go.RowKit
set_option maxRecDepth 100000

end Go.Proofs.YtcadinbahmliiaaGreatDoor

/- 'changed', for DesignFaster: its words. Conditions: a list of wheels. -/
namespace Go.Proofs.YtcadinbahmliiaaGreatDoor
open Go.RowKit
set_option maxRecDepth 100000

end Go.Proofs.YtcadinbahmliiaaGreatDoor

/- The program's DesignFaster. Conditions: a list of wheels. -/
namespace Go.Proofs.YtcadinbahmliiaaGreatDoor
open Go.RowKit
set_option maxRecDepth 100000

end Go.Proofs.YtcadinbahmliiaaGreatDoor

/- The program's DesignFaster, as a list or none, read as one. Conditions: a list of wheels. -/
namespace Go.Proofs.YtcadinbahmliiaaGreatDoor
open Go.RowKit
set_option maxRecDepth 100000

end Go.Proofs.YtcadinbahmliiaaGreatDoor

/- Plain laws of designs: turned, later, back, mirrored, faster. No program, no conditions. -/
namespace Go.Proofs.YtcadinbahmliiaaGreatDoor
open Go.RowKit

end Go.Proofs.YtcadinbahmliiaaGreatDoor

/- Plain laws of designs: periods and folds. No program, no conditions. -/
namespace Go.Proofs.YtcadinbahmliiaaGreatDoor
open Go.RowKit

end Go.Proofs.YtcadinbahmliiaaGreatDoor

/- Plain laws of designs: a tidy list turned is turned wheel by wheel; akin designs. No program, no conditions. -/
namespace Go.Proofs.YtcadinbahmliiaaGreatDoor
open Go.RowKit

def akB (A B : List Wh) (x y : Int) : Bool := (eachOk 1 0 x false A && eachOk 1 y 0 false (eachL 1 0 x false A)) && eqL (eachL 1 y 0 false (eachL 1 0 x false A)) B
end Go.Proofs.YtcadinbahmliiaaGreatDoor

/- Two cases of a word, read as one; the program's DesignClosed. Conditions: a list of wheels. -/
namespace Go.Proofs.YtcadinbahmliiaaGreatDoor
open Go.RowKit
set_option maxRecDepth 100000

end Go.Proofs.YtcadinbahmliiaaGreatDoor

/- DesignAkin of both: their words. Conditions: two lists of wheels. -/
namespace Go.Proofs.YtcadinbahmliiaaGreatDoor
open Go.RowKit
set_option maxRecDepth 100000

def akHit (A B : List Wh) (i : Nat) : Bool := akB A B ((i / 24 : Nat) : Int) ((i % 24 : Nat) : Int)
def cdA (x : Nat) : Int := IntKind.wrap IntKind.i64 (IntKind.wrap IntKind.i64 (24 * ((x / 24 : Nat) : Int)) + ((x % 24 : Nat) : Int))
theorem cdA_eq {x : Nat} (h : x < 576) : cdA x = x := by
  unfold cdA
  rw [wr_in (x := 24 * ((x / 24 : Nat) : Int)) (by omega), wr_in (by omega)]
  omega
def fh (p : Nat → Bool) (l : List Nat) : Int := match l.find? p with
  | some x => cdA x
  | none => -1
def hasH (p : Nat → Bool) (l : List Nat) : Bool := (l.find? p).isSome
theorem hasH_snoc (p : Nat → Bool) (l : List Nat) (x : Nat) : hasH p (l ++ [x]) = (hasH p l || p x) := by
  unfold hasH
  rw [List.find?_append]
  cases l.find? p with
  | some y => rfl
  | none => cases h : p x <;> simp [h]
theorem fh_yes {p : Nat → Bool} {l : List Nat} (x : List Nat) (h : hasH p l = true) : fh p (l ++ x) = fh p l := by
  unfold hasH at h
  unfold fh
  rw [List.find?_append]
  cases e : l.find? p with
  | some y => rfl
  | none => rw [e] at h; cases h
theorem fh_new {p : Nat → Bool} {l : List Nat} {x : Nat} (h : hasH p l = false) (hx : p x = true) : fh p (l ++ [x]) = cdA x := by
  unfold hasH at h
  unfold fh
  rw [List.find?_append]
  cases e : l.find? p with
  | some y => rw [e] at h; cases h
  | none => simp [hx]
theorem fh_not {p : Nat → Bool} {l : List Nat} (h : hasH p l = false) : fh p l = -1 := by
  unfold hasH at h
  unfold fh
  cases e : l.find? p with
  | some y => rw [e] at h; cases h
  | none => rfl
theorem fh_nn {p : Nat → Bool} {l : List Nat} (hl : ∀ x ∈ l, x < 576) (h : hasH p l = true) : 0 ≤ fh p l := by
  unfold hasH at h
  unfold fh
  cases e : l.find? p with
  | some y =>
    show 0 ≤ cdA y
    rw [cdA_eq (hl y (List.mem_of_find?_eq_some e))]
    omega
  | none => rw [e] at h; cases h
theorem hasH_no {p : Nat → Bool} {k : Nat} (h : noneTo p k = true) : hasH p (List.range k) = false := by
  unfold hasH
  have : (List.range k).find? p = none := List.find?_eq_none.2 fun x hx => by
    rw [noneTo_get h (List.mem_range.1 hx)]
    simp
  rw [this]
  rfl
theorem fh_range {p : Nat → Bool} {k : Nat} (hk : k ≤ 576) (h : hasH p (List.range k) = true) : fh p (List.range 576) = fh p (List.range k) := by
  rw [show 576 = k + (576 - k) by omega, List.range_add]
  exact fh_yes _ h
theorem fh_hit {p : Nat → Bool} {i : Nat} (h : noneTo p i = true) (hp : p i = true) (hi : i < 576) : fh p (List.range 576) = i := by
  have e : hasH p (List.range (i + 1)) = true := by rw [List.range_succ, hasH_snoc, hp, Bool.or_true]
  rw [fh_range (k := i + 1) hi e, List.range_succ, fh_new (hasH_no h) hp, cdA_eq hi]
def akF (A B : List Wh) : Int := fh (akHit A B) (List.range 576)
def aY (A B : List Wh) : Bool := (yI A && yI B) && decide (0 ≤ akF (tI A) (tI B))
def aN (A B : List Wh) : Int := bif aY A B then akF (tI A) (tI B) else 0
theorem aN_no {A B : List Wh} (h : aY A B = false) : aN A B = 0 := by rw [aN, h]; rfl
def FakV (nn : List Wh → List Wh → Int) (yes : List Wh → List Wh → Bool) : List SA → Option FR
  | [.row m ga, .row n gb] => some { val := .tup [.v (i64 (nn (listW (itW ga) m) (listW (itW gb) n))), .v (.bool (yes (listW (itW ga) m) (listW (itW gb) n)))], obl := [allW m ga, allW n gb, decide (m ≤ 2 ^ 38), decide (n ≤ 2 ^ 38)] }
  | _ => none

theorem ok_l7 : SpecOk Tryz.prog 93 (specR md_ak (FakO akB)) := by
  refine specR_hr gmR3_ok Tryz.func93 rfl fun sas fr hF ho => ?_
  unfold FakO at hF
  split at hF
  · rename_i m ga n gb x y
    cases hF
    simp only [ob_cons] at ho
    obtain ⟨h1, h2, h3, h4, _⟩ := ho
    have hm := of_decide_eq_true h3
    have hn := of_decide_eq_true h4
    refine ⟨hpTr m (itW ga) n (itW gb), noLam, 100, .cons (ABeq.row fun j hj => allW_get h1 j hj) (.cons (ABeq.row fun j hj => allW_get h2 j hj) .nil), noLam' _, ?_⟩
    show GoodQ (execF Tryz.prog (gmR3 eachOk eachL eqL) noLam 100 Tryz.f93 [.sl 0 9 0 0 m none, .sl 1 9 0 0 n none, .v (i64 x), .v (i64 y)] (hpTr m (itW ga) n (itW gb)) (packK 2)) _
    have fin : ∀ b, akB (listW (itW ga) m) (listW (itW gb) n) x y = b → GoodQ (.out .ret [.v (.bool b)] [.row false m 9 (row9 (itW ga)) 75, .row false n 9 (row9 (itW gb)) 75]) (GivR (abP md_ak [.row m ga, .row n gb, .v (.int .i64 x), .v (.int .i64 y)] []) { val := .v (.bool (akB (listW (itW ga) m) (listW (itW gb) n) x y)), obl := [allW m ga, allW n gb, decide (m ≤ 2 ^ 38), decide (n ≤ 2 ^ 38)] }) := fun b hb =>
      good_out ⟨_, rfl, by rw [hb], .cons (ABeq.row fun j hj => (allW_get h1 j hj).symm) (.cons (ABeq.row fun j hj => (allW_get h2 j hj).symm) .nil)⟩
    rw [treeAk]
    simp only [row0, listW_itW]
    have l1 : (eachL 1 0 x false (listW (itW ga) m)).length ≤ 12 := eachL_len _ _ _ _ _
    rw [show listW (wfun (eachL 1 0 x false (listW (itW ga) m))) (eachL 1 0 x false (listW (itW ga) m)).length = eachL 1 0 x false (listW (itW ga) m) from listW_fun _]
    have l2 : (eachL 1 y 0 false (eachL 1 0 x false (listW (itW ga) m))).length ≤ 12 := eachL_len _ _ _ _ _
    rw [show listW (wfun (eachL 1 y 0 false (eachL 1 0 x false (listW (itW ga) m)))) (eachL 1 y 0 false (eachL 1 0 x false (listW (itW ga) m))).length = eachL 1 y 0 false (eachL 1 0 x false (listW (itW ga) m)) from listW_fun _]
    refine good_needs (by simp only [ob_cons, ob_nil, and_true, decide_eq_true_eq, Nat.ble_eq, allW_row, true_and]; omega) (good_cond (fun q => ?_) fun q => good_needs (by simp only [ob_cons, ob_nil, and_true, decide_eq_true_eq, Nat.ble_eq, allW_row, true_and]; omega) (good_cond (fun q2 => good_needs (by simp only [ob_cons, ob_nil, and_true, decide_eq_true_eq, Nat.ble_eq, allW_row, true_and]; omega) ?_) fun q2 => ?_))
    · rw [Bool.not_eq_true'] at q
      exact fin _ (by rw [akB, q]; rfl)
    · rw [Bool.not_eq_false'] at q
      exact fin _ (by rw [akB, q, q2]; rfl)
    · rw [Bool.not_eq_false'] at q
      exact fin _ (by rw [akB, q, q2]; rfl)
  · cases hF

theorem sumAk (m : Nat) (f : Nat → Nat → Int) (n : Nat) (g : Nat → Nat → Int) (A B : List Wh) (hA : A.length ≤ 12) (hB : B.length ≤ 12) :
    SumOk Tryz.prog 2 (.block 0 (.loop (loopAt 0 Tryz.f59))) (atS 39 (lvAk .normal) 2 (stAk A.length B.length 0) (hpAk m f n g A.length (wfun A) B.length (wfun B)) (fun K => cond (noneTo (akHit A B) 576) (K .normal (mkT 0 39 []) (hpTr m f n g)) (K .ret (mkT 0 39 [(4, .v (i64 (akF A B))), (5, .v (.bool true))]) (hpTr m f n g)))) := by
  refine for_at (Γ := gmAk akB) (ext_ok g0_ok ok_l7) (n := 100) (m := 2) (lv := lvAk) (fun i => stAk A.length B.length i) (fun _ => hpAk m f n g A.length (wfun A) B.length (wfun B)) (fun i => noneTo (akHit A B) i = true) 576 (fun _ => noLam) (lv3_ris rfl rfl rfl) (Nat.le_refl _) rfl fun K Q hk i hi h576 => ⟨noLam_ok _ _ _, ?_⟩
  rw [rndAk, listW_self A _ rfl, listW_self B _ rfl]
  have e1 : Int.tdiv (i : Int) 24 = ((i / 24 : Nat) : Int) := (Int.ofNat_tdiv i 24).symm
  have e2 : Int.tmod (i : Int) 24 = ((i % 24 : Nat) : Int) := (Int.ofNat_tmod i 24).symm
  rw [e1, e2, wr_in (x := ((i / 24 : Nat) : Int)) (by omega)]
  refine good_cond (fun c1 => ?_) fun c1 => ?_
  · have c1 := of_decide_eq_true c1
    have c1' : i < 576 := by omega
    refine good_needs (by simp only [ob_cons, ob_nil, and_true, decide_eq_true_eq, Nat.ble_eq, allW_row, true_and]; omega) (good_cond (fun q => ?_) fun q => ?_)
    · have q' : akHit A B i = true := q
      rw [noneTo_no c1' q'] at hk
      refine good_out ⟨_, Hsim.refl _, ?_⟩
      rw [show akF A B = (i : Int) from fh_hit hi q' c1'] at hk
      exact hk
    · rw [wr_in (x := (i : Int) + 1) (by omega)]
      exact good_out ⟨i + 1, ⟨rfl, c1', noneTo_succ hi q⟩, rfl, Hsim.refl _⟩
  · have c1 := of_decide_eq_false c1
    have : i = 576 := by omega
    subst this
    rw [hi] at hk
    refine good_out ⟨_, Hsim.refl _, ?_⟩
    rw [if_pos rfl]
    exact hk
theorem akF_pos {A B : List Wh} (h : noneTo (akHit A B) 576 = false) : 0 ≤ akF A B := by
  refine fh_nn (fun x hx => List.mem_range.1 hx) ?_
  cases e : hasH (akHit A B) (List.range 576) with
  | true => rfl
  | false =>
    have : noneTo (akHit A B) 576 = true := noneTo_iff.2 fun i hi => by
      cases e2 : akHit A B i with
      | false => rfl
      | true =>
        unfold hasH at e
        have : (List.range 576).find? (akHit A B) = none := by
          cases e3 : (List.range 576).find? (akHit A B) with
          | none => rfl
          | some y => rw [e3] at e; cases e
        have := List.find?_eq_none.1 this i (List.mem_range.2 hi)
        exact absurd e2 this
    rw [this] at h
    cases h
theorem tidyL_len12 (L : List Wh) : (tidyL L).length ≤ 12 := by
  cases h : okT L with
  | true => exact tidyL_len h
  | false => rw [tidyL_no h]; exact Nat.zero_le _
theorem ok_akS : SpecOk Tryz.prog 59 (specR md_eqWS (FakV aN aY)) := by
  refine specR_hr gmS2_ok Tryz.func59 rfl fun sas fr hF ho => ?_
  unfold FakV at hF
  split at hF
  · rename_i m ga n gb
    cases hF
    simp only [ob_cons] at ho
    obtain ⟨h1, h2, h3, h4, _⟩ := ho
    have hm := of_decide_eq_true h3
    have hn := of_decide_eq_true h4
    have fin : ∀ v b, aN (listW (itW ga) m) (listW (itW gb) n) = v → aY (listW (itW ga) m) (listW (itW gb) n) = b → GoodQ (.out .ret [.tup [.v (i64 v), .v (.bool b)]] (hpTr m (itW ga) n (itW gb))) (GivR (abP md_eqWS [.row m ga, .row n gb] []) { val := .tup [.v (i64 (aN (listW (itW ga) m) (listW (itW gb) n))), .v (.bool (aY (listW (itW ga) m) (listW (itW gb) n)))], obl := [allW m ga, allW n gb, decide (m ≤ 2 ^ 38), decide (n ≤ 2 ^ 38)] }) := fun v b hv hb =>
      good_out ⟨_, rfl, by rw [hv, hb], .cons (ABeq.row fun j hj => (allW_get h1 j hj).symm) (.cons (ABeq.row fun j hj => (allW_get h2 j hj).symm) .nil)⟩
    have bad : aY (listW (itW ga) m) (listW (itW gb) n) = false → GoodQ (.out .ret [.tup [.v (i64 0), .v (.bool false)]] (hpTr m (itW ga) n (itW gb))) _ := fun h => fin 0 false (aN_no h) h
    refine ⟨hpTr m (itW ga) n (itW gb), _, 100, .cons (ABeq.row fun j hj => allW_get h1 j hj) (.cons (ABeq.row fun j hj => allW_get h2 j hj) .nil), lam1 (by kernel_rfl) (sumAk m (itW ga) n (itW gb) (tidyL (listW (itW ga) m)) (tidyL (listW (itW gb) n)) (tidyL_len12 _) (tidyL_len12 _)), ?_⟩
    show GoodQ (execF Tryz.prog (gmS2 okD tidyL okT) (lamAk m (itW ga) n (itW gb) (tidyL (listW (itW ga) m)).length (wfun (tidyL (listW (itW ga) m))) (tidyL (listW (itW gb) n)).length (wfun (tidyL (listW (itW gb) n))) (noneTo (akHit (tidyL (listW (itW ga) m)) (tidyL (listW (itW gb) n))) 576) (akF (tidyL (listW (itW ga) m)) (tidyL (listW (itW gb) n)))) 100 Tryz.f59 [.sl 0 9 0 0 m none, .sl 1 9 0 0 n none] (hpTr m (itW ga) n (itW gb)) (packK 2)) _
    rw [treeAkS]
    simp only [row0, listW_itW]
    generalize listW (itW ga) m = A at fin bad ⊢
    generalize listW (itW gb) n = B at fin bad ⊢
    have ob : ∀ {k l : Nat} {a b : Nat → Nat → Int} {K : Nat}, l = k → k ≤ K → obls [Nat.ble (0 + k) l, allW k (row9 a), decide (k ≤ K)] = true := fun {k l a b K} e hK => by
      simp only [ob_cons, ob_nil, and_true, decide_eq_true_eq, Nat.ble_eq, allW_row, true_and]
      omega
    have noA : okD A = false → aY A B = false := fun h => by rw [aY, yI, h]; rfl
    have noA2 : okT A = false → aY A B = false := fun h => by rw [aY, yI, h, Bool.and_false]; rfl
    have noB : okD B = false → aY A B = false := fun h => by rw [aY, yI, yI, h, Bool.false_and, Bool.and_false]; rfl
    have noB2 : okT B = false → aY A B = false := fun h => by rw [aY, yI, yI, h, Bool.and_false (okD B), Bool.and_false]; rfl
    refine good_needs (by simp only [ob_cons, ob_nil, and_true, decide_eq_true_eq, Nat.ble_eq, allW_row, true_and]; omega) (good_cond (fun q => ?_) fun q => ?_)
    · rw [Bool.not_eq_true'] at q
      refine good_needs (by simp only [ob_cons, ob_nil, and_true, decide_eq_true_eq, Nat.ble_eq, allW_row, true_and]; omega) (good_cond (fun _ => bad (noA q)) fun _ => good_needs (by simp only [ob_cons, ob_nil, and_true, decide_eq_true_eq, Nat.ble_eq, allW_row, true_and]; omega) (bad (noA q)))
    · rw [Bool.not_eq_false'] at q
      refine good_needs (by simp only [ob_cons, ob_nil, and_true, decide_eq_true_eq, Nat.ble_eq, allW_row, true_and]; omega) (good_cond (fun q2 => ?_) fun q2 => ?_)
      · rw [Bool.not_eq_true'] at q2
        exact good_cond (fun _ => bad (noB q2)) fun _ => bad (noB q2)
      · rw [Bool.not_eq_false'] at q2
        refine good_needs (by simp only [ob_cons, ob_nil, and_true, decide_eq_true_eq, Nat.ble_eq, allW_row, true_and]; omega) (good_cond (fun q3 => ?_) fun q3 => good_cond (fun q4 => ?_) fun q4 => good_needs (by rw [ob_cons]; exact ⟨chk_of ⟨rfl, Hsim.refl _⟩, rfl⟩) ?_)
        · rw [Bool.not_eq_true'] at q3
          exact bad (noA2 q3)
        · rw [Bool.not_eq_true'] at q4
          exact bad (noB2 q4)
        · rw [Bool.not_eq_false'] at q3 q4
          have yA : yI A = true := by rw [yI, q, q3]; rfl
          have yB : yI B = true := by rw [yI, q2, q4]; rfl
          have tA : tI A = tidyL A := by rw [tI, yA]; rfl
          have tB : tI B = tidyL B := by rw [tI, yB]; rfl
          refine good_cond (fun c => bad ?_) fun c => fin _ _ ?_ ?_
          · rw [aY, tA, tB, show akF (tidyL A) (tidyL B) = -1 from fh_not (hasH_no c)]
            rw [show decide (0 ≤ (-1 : Int)) = false from rfl, Bool.and_false]
          · rw [aN, aY, yA, yB, tA, tB, decide_eq_true (akF_pos c)]
            rfl
          · rw [aY, yA, yB, tA, tB, decide_eq_true (akF_pos c)]
            rfl
  · cases hF

end Go.Proofs.YtcadinbahmliiaaGreatDoor

/- The program's DesignAkin: its word. Conditions: two lists of wheels. -/
namespace Go.Proofs.YtcadinbahmliiaaGreatDoor
open Go.RowKit
set_option maxRecDepth 100000

theorem gmAkI_ok : GamOk Tryz.prog (gmAkI yesTi tidyL mpTi yT yL tT tL eqL) := ext_ok gmS3_ok ok_deYTi
theorem pairs_enters : ∀ args w, (callFunc 97 args).run Tryz.prog w = .ok (.enter 97 args) w := fun args w => enters _ _ Tryz.func97 rfl args w
theorem yL_none (x : Int) : yL x noneL = false := by
  unfold yL eachOk eachP
  rw [show okD noneL = false by decide +kernel]
  rfl
def lpA (p : Nat → Bool) (A : List Wh) (pre : List Nat) : List Wh := bif hasH p pre then noneL else A
def hpP (m : Nat) (f : Nat → Nat → Int) (n : Nat) (g : Nat → Nat → Int) (A B : List Wh) (pre : List Nat) : List AB := hpAkI m f n g (lpA (akHit A B) A pre).length (wfun (lpA (akHit A B) A pre)) B.length (wfun B) (fh (akHit A B) pre)
def hxP (m : Nat) (f : Nat → Nat → Int) (n : Nat) (g : Nat → Nat → Int) (A B : List Wh) (_ : Ex) (pre : List Nat) : List AB := hpAkI m f n g A.length (wfun A) B.length (wfun B) (bif hasH (akHit A B) pre then fh (akHit A B) pre else akF A B)
def lvX : Ex → Bool
  | .exit j => Nat.beq j 0
  | _ => false
theorem roundAk (m : Nat) (f : Nat → Nat → Int) (n : Nat) (g : Nat → Nat → Int) (A B : List Wh) (hA : A.length ≤ 12) (_ : B.length ≤ 12) (pre : List Nat) (x : Nat) :
    (execC Tryz.prog (gmAkI yesTi tidyL mpTi yT yL tT tL eqL) 100 noLam akAs (parT [32, 33] (enP x) TLak) (hpP m f n g A B pre) (andK Tryz.prog (gmAkI yesTi tidyL mpTi yT yL tT tL eqL) 100 akBd 7)).ok (RoundQ lvX (hpP m f n g A B) (hxP m f n g A B) (pre ++ [x])) := by
  have rnd := rndAkI yesTi tidyL mpTi yT yL tT tL eqL m f n g
  have lens : ∀ {L : List Wh} {k : Nat}, L.length ≤ 12 → 12 ≤ k → obls [Nat.ble (0 + L.length) L.length, allW L.length fun q => row9 (wfun L) (0 + q), decide (L.length ≤ k)] = true := fun {L k} h hk => by
    simp only [row0, ob_cons, ob_nil, and_true, decide_eq_true_eq, Nat.ble_eq, allW_row, true_and]
    omega
  suffices h : GoodQ (execC Tryz.prog (gmAkI yesTi tidyL mpTi yT yL tT tL eqL) 100 noLam akAs (parT [32, 33] [i64 ((x / 24 : Nat) : Int), i64 ((x % 24 : Nat) : Int)] TLak) (hpAkI m f n g (lpA (akHit A B) A pre).length (wfun (lpA (akHit A B) A pre)) B.length (wfun B) (fh (akHit A B) pre)) (andK Tryz.prog (gmAkI yesTi tidyL mpTi yT yL tT tL eqL) 100 akBd 7)) (RoundQ lvX (hpP m f n g A B) (hxP m f n g A B) (pre ++ [x])) from h.out
  rw [rnd]
  cases hh : hasH (akHit A B) pre with
  | true =>
    have hl : lpA (akHit A B) A pre = noneL := by rw [lpA, hh]; rfl
    have hl2 : lpA (akHit A B) A (pre ++ [x]) = noneL := by rw [lpA, hasH_snoc, hh]; rfl
    rw [hl]
    simp only [row0]
    rw [show listW (itW (row9 (wfun noneL))) noneL.length = noneL from listW_self noneL _ rfl, yL_none]
    refine good_needs (by have := lens (L := noneL) (k := 274877906944) (by decide) (by omega); simpa only [row0] using this) (good_true rfl (good_out ?_))
    show Hsim _ (hpP m f n g A B (pre ++ [x]))
    unfold hpP
    rw [hl2, fh_yes _ hh]
    exact Hsim.refl _
  | false =>
    have hl : lpA (akHit A B) A pre = A := by rw [lpA, hh]; rfl
    rw [hl]
    simp only [row0]
    rw [show listW (itW (row9 (wfun A))) A.length = A from listW_self A _ rfl, show listW (itW (row9 (wfun B))) B.length = B from listW_self B _ rfl]
    have l1 : (tL ((x / 24 : Nat) : Int) A).length ≤ 12 := eachL_len _ _ _ _ _
    rw [show listW (itW (row9 (wfun (tL ((x / 24 : Nat) : Int) A)))) (tL ((x / 24 : Nat) : Int) A).length = tL ((x / 24 : Nat) : Int) A from listW_self _ _ rfl]
    have l2 : (tT ((x % 24 : Nat) : Int) (tL ((x / 24 : Nat) : Int) A)).length ≤ 12 := eachL_len _ _ _ _ _
    rw [show listW (itW (row9 (wfun (tT ((x % 24 : Nat) : Int) (tL ((x / 24 : Nat) : Int) A))))) (tT ((x % 24 : Nat) : Int) (tL ((x / 24 : Nat) : Int) A)).length = tT ((x % 24 : Nat) : Int) (tL ((x / 24 : Nat) : Int) A) from listW_self _ _ rfl]
    have non : akHit A B x = false → RoundQ lvX (hpP m f n g A B) (hxP m f n g A B) (pre ++ [x]) .normal (mkT 0 54 []) (hpAkI m f n g A.length (wfun A) B.length (wfun B) (fh (akHit A B) pre)) := fun hn => by
      have hs : hasH (akHit A B) (pre ++ [x]) = false := by rw [hasH_snoc, hh, hn]; rfl
      show Hsim _ (hpP m f n g A B (pre ++ [x]))
      unfold hpP
      rw [show lpA (akHit A B) A (pre ++ [x]) = A by rw [lpA, hs]; rfl, fh_not hs, fh_not hh]
      exact Hsim.refl _
    refine good_needs (by have := lens (L := A) (k := 274877906944) hA (by omega); simpa only [row0] using this) (good_cond (fun q => good_out (non ?_)) fun q => good_needs (by have := lens (L := tL ((x / 24 : Nat) : Int) A) (k := 274877906944) l1 (by omega); simpa only [row0] using this) (good_cond (fun q2 => good_needs ?_ (good_cond (fun q3 => good_out ?_) fun q3 => good_out (non ?_))) fun q2 => good_out (non ?_)))
    · rw [Bool.not_eq_true'] at q
      show akB A B _ _ = false
      rw [akB]
      rw [show eachOk 1 0 ((x / 24 : Nat) : Int) false A = false from q]
      rfl
    · simp only [ob_cons, ob_nil, and_true, decide_eq_true_eq, Nat.ble_eq, allW_row, true_and]
      omega
    · rw [Bool.not_eq_false'] at q
      have hn : akHit A B x = true := by
        show akB A B _ _ = true
        rw [akB, show eachOk 1 0 ((x / 24 : Nat) : Int) false A = true from q, show eachOk 1 ((x % 24 : Nat) : Int) 0 false (eachL 1 0 ((x / 24 : Nat) : Int) false A) = true from q2]
        exact q3
      refine ⟨rfl, ?_⟩
      unfold hxP
      have hs : hasH (akHit A B) (pre ++ [x]) = true := by rw [hasH_snoc, hn, Bool.or_true]
      rw [hs, cond_true, fh_new hh hn]
      exact Hsim.refl _
    · rw [Bool.not_eq_false'] at q
      show akB A B _ _ = false
      rw [akB, show eachOk 1 0 ((x / 24 : Nat) : Int) false A = true from q, show eachOk 1 ((x % 24 : Nat) : Int) 0 false (eachL 1 0 ((x / 24 : Nat) : Int) false A) = true from q2]
      exact q3
    · rw [Bool.not_eq_false'] at q
      show akB A B _ _ = false
      rw [akB, show eachOk 1 0 ((x / 24 : Nat) : Int) false A = true from q, show eachOk 1 ((x % 24 : Nat) : Int) 0 false (eachL 1 0 ((x / 24 : Nat) : Int) false A) = false from q2]
      rfl

def FakY (nn : List Wh → List Wh → Int) (yes : List Wh → List Wh → Bool) : List SA → Option FR
  | [.row m ga, .row n gb] => some { val := .tup [.v (i64 (nn (listW (itW ga) m) (listW (itW gb) n))), .v (.bool (yes (listW (itW ga) m) (listW (itW gb) n)))], obl := [allW m ga, allW n gb, decide (m ≤ 2 ^ 38), decide (n ≤ 2 ^ 38), yI (listW (itW ga) m), yI (listW (itW gb) n)] }
  | _ => none
theorem ok_akY : SpecOk Tryz.prog 34 (specR md_eqWS (FakY aN aY)) := by
  refine specR_calls enters Tryz.func34 rfl fun sas fr hF ho => ?_
  unfold FakY at hF
  split at hF
  · rename_i m ga n gb
    cases hF
    simp only [ob_cons] at ho
    obtain ⟨h1, h2, h3, h4, yA, yB, _⟩ := ho
    have hm := of_decide_eq_true h3
    have hn := of_decide_eq_true h4
    refine ⟨hpTr m (itW ga) n (itW gb), .cons (ABeq.row fun j hj => allW_get h1 j hj) (.cons (ABeq.row fun j hj => allW_get h2 j hj) .nil), ?_⟩
    have fin : ∀ v b, aN (listW (itW ga) m) (listW (itW gb) n) = v → aY (listW (itW ga) m) (listW (itW gb) n) = b → GoodQ (.out .ret [.tup [.v (i64 v), .v (.bool b)]] (hpTr m (itW ga) n (itW gb))) (GivR (abP md_eqWS [.row m ga, .row n gb] []) { val := .tup [.v (i64 (aN (listW (itW ga) m) (listW (itW gb) n))), .v (.bool (aY (listW (itW ga) m) (listW (itW gb) n)))], obl := [allW m ga, allW n gb, decide (m ≤ 2 ^ 38), decide (n ≤ 2 ^ 38), yI (listW (itW ga) m), yI (listW (itW gb) n)] }) := fun v b hv hb =>
      good_out ⟨_, rfl, by rw [hv, hb], .cons (ABeq.row fun j hj => (allW_get h1 j hj).symm) (.cons (ABeq.row fun j hj => (allW_get h2 j hj).symm) .nil)⟩
    have tA : tI (listW (itW ga) m) = tidyL (listW (itW ga) m) := by rw [tI, yA]; rfl
    have tB : tI (listW (itW gb) n) = tidyL (listW (itW gb) n) := by rw [tI, yB]; rfl
    have lA := tidyL_len12 (listW (itW ga) m)
    have lB := tidyL_len12 (listW (itW gb) n)
    have pre := preAk yesTi tidyL mpTi yT yL tT tL eqL m (itW ga) n (itW gb)
    simp only [row0, listW_itW, map_Ti] at pre
    have eY : aY (listW (itW ga) m) (listW (itW gb) n) = decide (0 ≤ akF (tidyL (listW (itW ga) m)) (tidyL (listW (itW gb) n))) := by rw [aY, yA, yB, tA, tB]; rfl
    have eN : aN (listW (itW ga) m) (listW (itW gb) n) = bif decide (0 ≤ akF (tidyL (listW (itW ga) m)) (tidyL (listW (itW gb) n))) then akF (tidyL (listW (itW ga) m)) (tidyL (listW (itW gb) n)) else 0 := by rw [aN, eY, tA, tB]
    have sA := yesTi_eq (listW (itW ga) m)
    have sB := yesTi_eq (listW (itW gb) n)
    rw [show (okD (listW (itW ga) m) && okT (listW (itW ga) m)) = yI (listW (itW ga) m) from rfl, yA] at sA
    rw [show (okD (listW (itW gb) n) && okT (listW (itW gb) n)) = yI (listW (itW gb) n) from rfl, yB] at sB
    generalize tidyL (listW (itW ga) m) = A at lA eY eN pre
    generalize tidyL (listW (itW gb) n) = B at lB eY eN pre
    -- behind the loop, by the number found
    have stop : ∀ v : Int, v = akF A B → GoodQ (bif decide (v < 0) then Res.out .ret [.tup [.v (i64 0), .v (.bool false)]] (hpTr m (itW ga) n (itW gb)) else Res.out .ret [.tup [.v (i64 v), .v (.bool true)]] (hpTr m (itW ga) n (itW gb))) (GivR (abP md_eqWS [.row m ga, .row n gb] []) { val := .tup [.v (i64 (aN (listW (itW ga) m) (listW (itW gb) n))), .v (.bool (aY (listW (itW ga) m) (listW (itW gb) n)))], obl := [allW m ga, allW n gb, decide (m ≤ 2 ^ 38), decide (n ≤ 2 ^ 38), yI (listW (itW ga) m), yI (listW (itW gb) n)] }) := fun v hv => by
      subst hv
      refine good_cond (fun q => ?_) fun q => ?_
      · have q := of_decide_eq_true q
        have hd : decide (0 ≤ akF A B) = false := decide_eq_false (by omega)
        exact fin 0 false (by rw [eN, hd]; rfl) (by rw [eY, hd])
      · have q := of_decide_eq_false q
        have hd : decide (0 ≤ akF A B) = true := decide_eq_true (by omega)
        exact fin _ true (by rw [eN, hd]; rfl) (by rw [eY, hd])
    refine calls_rangeS (α := Nat) (n := 100) (nn := 0) gmAkI_ok mixed enters Tryz.func34 bAk_eq (by kernel_rfl) (by kernel_rfl) (by kernel_rfl) (by kernel_rfl) (by kernel_rfl) (by kernel_rfl) (lvp := lv3 [6, 8, 10, 31] [] []) (TT := TTak) (HH := hpAkI m (itW ga) n (itW gb) A.length (wfun A) B.length (wfun B) (-1))
      (encs := enP) (S := fun xs => xs = List.range 576) (Sp := fun xs => ∃ k, k ≤ 576 ∧ xs = List.range k) (N := 576) ?_ (gf := 97) (cs := []) (by kernel_rfl) TLak (by kernel_rfl) (mask_less (live := [6, 8, 10]) (by kernel_rfl)) lvX (hpP m (itW ga) n (itW gb) A B) (hxP m (itW ga) n (itW gb) A B) rfl (fun i => .inl rfl)
      pairs_enters (fun W ν1 a1 lb hS hv => ?_) (fun _ => rfl) (by decide) (fun pre x _ => ?_) (fun xs hxs => ?_) (fun e pre hne hlv hsp => ?_)
    · show (execL Tryz.prog (gmAkI yesTi tidyL mpTi yT yL tT tL eqL) 100 (akPre0 ++ (akPre ++ [akP2])) ([.sl 0 9 0 0 m none, .sl 1 9 0 0 n none] ++ List.replicate 52 (.v undef)) (hpTr m (itW ga) n (itW gb)) (leafK (lv3 [6, 8, 10, 31] [] []) 2)).ok _
      rw [pre]
      exact (good_needs (Q := fun e T' H' => e = .normal ∧ T' = TTak ∧ H' = hpAkI m (itW ga) n (itW gb) A.length (wfun A) B.length (wfun B) (-1)) (r := .out .normal TTak (hpAkI m (itW ga) n (itW gb) A.length (wfun A) B.length (wfun B) (-1))) (by simp only [ob_cons, ob_nil, decide_eq_true_eq, and_true, allW_row, Nat.ble_eq, true_and, sA, sB]; omega) ⟨⟨rfl, rfl, rfl⟩⟩).out
    · cases lb with
      | nil => exact pairs_stops hS.heap.tab
      | cons y ys => simp only [VRs] at hv
    · exact roundAk m (itW ga) n (itW gb) A B lA lB pre x
    · subst hxs
      show (behind Tryz.prog (gmAkI yesTi tidyL mpTi yT yL tT tL eqL) 100 fAk 0 akRest (packK 2) .normal TLak (hpAkI m (itW ga) n (itW gb) (lpA (akHit A B) A (List.range 576)).length (wfun (lpA (akHit A B) A (List.range 576))) B.length (wfun B) (fh (akHit A B) (List.range 576)))).ok _
      rw [endAkN]
      exact (stop _ rfl).out
    · obtain ⟨k, hk, rfl⟩ := hsp
      cases e with
      | normal => exact (hne rfl).elim
      | ret => cases hlv
      | exit j =>
        have hj : j = 0 := Nat.eq_of_beq_eq_true hlv
        subst hj
        show (behind Tryz.prog (gmAkI yesTi tidyL mpTi yT yL tT tL eqL) 100 fAk 0 akRest (packK 2) (.exit 0) TLak (hpAkI m (itW ga) n (itW gb) A.length (wfun A) B.length (wfun B) (bif hasH (akHit A B) (List.range k) then fh (akHit A B) (List.range k) else akF A B))).ok _
        rw [endAkX]
        refine (stop _ ?_).out
        cases hh : hasH (akHit A B) (List.range k) with
        | true => exact (fh_range hk hh).symm
        | false => rfl
  · cases hF

def FakN (yI : List Wh → Bool) : List SA → Option FR
  | [.row m ga, .row n gb] => some { val := .tup [.v (i64 0), .v (.bool false)], obl := [allW m ga, allW n gb, decide (m ≤ 2 ^ 38), decide (n ≤ 2 ^ 38), !(yI (listW (itW ga) m) && yI (listW (itW gb) n))] }
  | _ => none
def gmTi (yI : List Wh → Bool) (tI : List Wh → List Wh) : Gam := ext g0 46 (specU md_ws (UO0 yI tI))
theorem treeAkN (yI : List Wh → Bool) (tI : List Wh → List Wh) (m : Nat) (f : Nat → Nat → Int) (n : Nat) (g : Nat → Nat → Int) : execF Tryz.prog (gmTi yI tI) noLam 100 fAk [.sl 0 9 0 0 m none, .sl 1 9 0 0 n none] (hpTr m f n g) (packK 2)
    = needs [Nat.ble ((0 : Nat) + m) m, allW m fun q ↦ row9 f ((0 : Nat) + q), decide (m ≤ (274877906944 : Nat)), Nat.ble ((0 : Nat) + n) n, allW n fun q ↦ row9 g ((0 : Nat) + q), decide (n ≤ (274877906944 : Nat))] (bif !yI (listW (itW fun q ↦ row9 f ((0 : Nat) + q)) m) then Res.out .ret [AV.tup [AV.v (.int .i64 0), AV.v (.bool false)]] [AB.row false m 9 (row9 f) 75, AB.row false n 9 (row9 g) 75] else needs [!yI (listW (itW fun q ↦ row9 g ((0 : Nat) + q)) n)] (Res.out .ret [AV.tup [AV.v (.int .i64 0), AV.v (.bool false)]] [AB.row false m 9 (row9 f) 75, AB.row false n 9 (row9 g) 75])) := by kernel_rfl

theorem ok_akN : SpecOk Tryz.prog 34 (specR md_eqWS (FakN yI)) := by
  refine specR_hr (ext_ok g0_ok ok_UTi) Tryz.func34 rfl fun sas fr hF ho => ?_
  unfold FakN at hF
  split at hF
  · rename_i m ga n gb
    cases hF
    simp only [ob_cons] at ho
    obtain ⟨h1, h2, h3, h4, h5, _⟩ := ho
    have hm := of_decide_eq_true h3
    have hn := of_decide_eq_true h4
    refine ⟨hpTr m (itW ga) n (itW gb), noLam, 100, .cons (ABeq.row fun j hj => allW_get h1 j hj) (.cons (ABeq.row fun j hj => allW_get h2 j hj) .nil), noLam' _, ?_⟩
    show GoodQ (execF Tryz.prog (gmTi yI tI) noLam 100 fAk [.sl 0 9 0 0 m none, .sl 1 9 0 0 n none] (hpTr m (itW ga) n (itW gb)) (packK 2)) _
    have fin : GoodQ (.out .ret [.tup [.v (i64 0), .v (.bool false)]] (hpTr m (itW ga) n (itW gb))) (GivR (abP md_eqWS [.row m ga, .row n gb] []) { val := .tup [.v (i64 0), .v (.bool false)], obl := [allW m ga, allW n gb, decide (m ≤ 2 ^ 38), decide (n ≤ 2 ^ 38), !(yI (listW (itW ga) m) && yI (listW (itW gb) n))] }) :=
      good_out ⟨_, rfl, rfl, .cons (ABeq.row fun j hj => (allW_get h1 j hj).symm) (.cons (ABeq.row fun j hj => (allW_get h2 j hj).symm) .nil)⟩
    rw [treeAkN]
    simp only [row0, listW_itW]
    cases yA : yI (listW (itW ga) m) with
    | false =>
      refine good_needs (by simp only [ob_cons, ob_nil, and_true, decide_eq_true_eq, Nat.ble_eq, allW_row, true_and]; omega) ?_
      simp only [Bool.not_false, cond_true]
      exact fin
    | true =>
      rw [yA, Bool.true_and] at h5
      refine good_needs (by simp only [ob_cons, ob_nil, and_true, decide_eq_true_eq, Nat.ble_eq, allW_row, true_and]; omega) ?_
      simp only [Bool.not_true, cond_false, h5]
      exact fin
  · cases hF
theorem ok_akI : SpecOk Tryz.prog 34 (specR md_eqWS (FakV aN aY)) := by
  refine specR_two ok_akY ok_akN fun sas fr hF ho => ?_
  unfold FakV at hF
  split at hF
  · rename_i m ga n gb
    cases hF
    simp only [ob_cons] at ho
    obtain ⟨h1, h2, h3, h4, _⟩ := ho
    cases hv : (yI (listW (itW ga) m) && yI (listW (itW gb) n)) with
    | true =>
      rw [Bool.and_eq_true] at hv
      refine .inl ⟨[allW m ga, allW n gb, decide (m ≤ 2 ^ 38), decide (n ≤ 2 ^ 38), yI (listW (itW ga) m), yI (listW (itW gb) n)], rfl, ?_⟩
      simp only [ob_cons, ob_nil, and_true]
      exact ⟨h1, h2, h3, h4, hv.1, hv.2⟩
    | false =>
      have eY : aY (listW (itW ga) m) (listW (itW gb) n) = false := by rw [aY, hv]; rfl
      refine .inr ⟨[allW m ga, allW n gb, decide (m ≤ 2 ^ 38), decide (n ≤ 2 ^ 38), !(yI (listW (itW ga) m) && yI (listW (itW gb) n))], ?_, ?_⟩
      · rw [aN_no eY, eY]
        rfl
      · simp only [ob_cons, ob_nil, and_true]
        exact ⟨h1, h2, h3, h4, by rw [hv]; rfl⟩
  · cases hF

end Go.Proofs.YtcadinbahmliiaaGreatDoor

/- DesignMirrored of both: their words. Conditions: a list of wheels. -/
namespace Go.Proofs.YtcadinbahmliiaaGreatDoor
open Go.RowKit
set_option maxRecDepth 100000

end Go.Proofs.YtcadinbahmliiaaGreatDoor

/- A callee that leaves what it reads as it was: its word, by its view, without a way back for its memory. No conditions. -/
namespace Go.Proofs.YtcadinbahmliiaaGreatDoor
open Go.RowKit

mutual
def posA : AV → Bool
  | .sl _ _ _ _ len _ => Nat.blt 0 len
  | .agg cs => posAs cs
  | .tup cs => posAs cs
  | .fn _ cs => posAs cs
  | _ => true
def posAs : List AV → Bool
  | [] => true
  | a :: al => posA a && posAs al
end
def posB : AB → Bool
  | .cells cs _ => posAs cs
  | _ => true
mutual
theorem VR.unren {keep : List Nat} {ν ν' : Nu} (h : ∀ j b, keepNu keep ν j = some b → ν' j = some b) : ∀ {a a' : AV} {x y : Value}, renA keep a = some a' → posA a = true → VR ν a x → VR ν' a' y → VR ν a y
  | .v _, a', _, _, hs, _, _, hv => by
    simp only [renA, Option.some.injEq] at hs
    subst hs
    simpa only [VR] using hv
  | .ptr .., a', _, _, hs, _, hx, hv => by
    simp only [renA, Option.map_eq_some_iff] at hs
    obtain ⟨q, hq, rfl⟩ := hs
    simp only [VR] at hx hv ⊢
    obtain ⟨b, h1, h2⟩ := hv
    obtain ⟨c, h3, _⟩ := hx
    have := h q c (by simp [keepNu, idxOf_get hq, h3])
    rw [h1, Option.some.injEq] at this
    subst this
    exact ⟨b, h3, h2⟩
  | .sl .., a', _, _, hs, hp, hx, hv => by
    simp only [renA, Option.map_eq_some_iff] at hs
    obtain ⟨q, hq, rfl⟩ := hs
    simp only [posA, Nat.blt_eq] at hp
    simp only [VR] at hx hv ⊢
    obtain ⟨p, c, h1, h2, h3, h4⟩ := hv
    obtain ⟨_, c0, _, _, g3, g4⟩ := hx
    refine ⟨p, c, h1, h2, h3, fun hc => ?_⟩
    obtain ⟨b, h5, h6⟩ := h4 hc
    obtain ⟨b0, g5, _⟩ := g4 (by omega)
    have := h q b0 (by simp [keepNu, idxOf_get hq, g5])
    rw [h5, Option.some.injEq] at this
    subst this
    exact ⟨b, g5, h6⟩
  | .own .., a', _, _, hs, _, hx, hv => by
    simp only [renA, Option.map_eq_some_iff] at hs
    obtain ⟨q, hq, rfl⟩ := hs
    simp only [VR] at hx hv ⊢
    obtain ⟨b, h1, h2⟩ := hv
    obtain ⟨c, h3, _⟩ := hx
    have := h q c (by simp [keepNu, idxOf_get hq, h3])
    rw [h1, Option.some.injEq] at this
    subst this
    exact ⟨b, h3, h2⟩
  | .agg _, a', _, _, hs, hp, hx, hv => by
    simp only [renA, Option.map_eq_some_iff] at hs
    obtain ⟨q, hq, rfl⟩ := hs
    simp only [posA] at hp
    simp only [VR] at hx hv ⊢
    obtain ⟨l, h1, h2⟩ := hv
    obtain ⟨l0, _, h3⟩ := hx
    exact ⟨l, h1, VRs.unren h hq hp h3 h2⟩
  | .tup _, a', _, _, hs, hp, hx, hv => by
    simp only [renA, Option.map_eq_some_iff] at hs
    obtain ⟨q, hq, rfl⟩ := hs
    simp only [posA] at hp
    simp only [VR] at hx hv ⊢
    obtain ⟨l, h1, h2⟩ := hv
    obtain ⟨l0, _, h3⟩ := hx
    exact ⟨l, h1, VRs.unren h hq hp h3 h2⟩
  | .fn _ _, a', _, _, hs, hp, hx, hv => by
    simp only [renA, Option.map_eq_some_iff] at hs
    obtain ⟨q, hq, rfl⟩ := hs
    simp only [posA] at hp
    simp only [VR] at hx hv ⊢
    obtain ⟨l, h1, h2⟩ := hv
    obtain ⟨l0, _, h3⟩ := hx
    exact ⟨l, h1, VRs.unren h hq hp h3 h2⟩
  | .err _, _, _, _, hs, _, _, hv => by
    simp only [renA, Option.some.injEq] at hs
    subst hs
    simpa only [VR] using hv
  | .dead, _, _, _, _, _, _, _ => by simp only [VR]
theorem VRs.unren {keep : List Nat} {ν ν' : Nu} (h : ∀ j b, keepNu keep ν j = some b → ν' j = some b) : ∀ {al al' : List AV} {xs ys : List Value}, renAs keep al = some al' → posAs al = true → VRs ν al xs → VRs ν' al' ys → VRs ν al ys
  | [], al', _, ys, hs, _, _, hv => by
    simp only [renAs, Option.some.injEq] at hs
    subst hs
    cases ys with
    | nil => simp only [VRs]
    | cons => simp only [VRs] at hv
  | a :: al, al', xs, ys, hs, hp, hx, hv => by
    simp only [renAs] at hs
    split at hs
    case h_2 => cases hs
    rename_i x xs' h1 h2
    cases hs
    cases ys with
    | nil => simp only [VRs] at hv
    | cons y ys =>
      cases xs with
      | nil => simp only [VRs] at hx
      | cons x0 xs =>
        simp only [VRs] at hx hv ⊢
        simp only [posAs, Bool.and_eq_true] at hp
        exact ⟨VR.unren h h1 hp.1 hx.1 hv.1, VRs.unren h h2 hp.2 hx.2 hv.2⟩
end

structure QRd where
  val : AV
  obl : List Bool := []
def specQ (ros : List Bool) (F : List AV → List AB → Option QRd) : Spec := fun avs H _ =>
  match viewH ros avs H with
  | some q => match F q.2.1 q.2.2 with
    | some kr => match mapA (fun _ => none) kr.val with
      | some v => some { val := v, rd := q.1, put := putH q.1 q.2.2 (q.1.map fun i => H.getD i .gone), new := [], obl := kr.obl ++ q.1.map fun i => posB (H.getD i .gone) }
      | none => none
    | none => none
  | none => none
def GivQ (kr : QRd) (H : List AB) : Ex → List AV → List AB → Prop := fun _ l He => l = [kr.val] ∧ Hsim He H
theorem specQ_ok {Γ : Gam} (hΓ : GamOk Tryz.prog Γ) {f : FuncId} {fn : Func} {ros : List Bool} {F : List AV → List AB → Option QRd} (hf : Tryz.prog.funcs[f]? = some fn) (hb : fn.body.isSome = true)
    (h : ∀ avs H kr, F avs H = some kr → obls kr.obl = true → ∃ (H0 : List AB) (Λ : Nat → Option Sum) (n : Nat), Hsim H H0 ∧ (∀ c, fn.body = some c → LamOk Tryz.prog H0.length Λ c) ∧ GoodQ (execF Tryz.prog Γ Λ n fn avs H0 (packK H0.length)) (GivQ kr H)) : SpecOk Tryz.prog f (specQ ros F) := by
  refine ⟨fun args w => enters f fn hf hb args w, fun avs H base δ ν vals w hS ho hv hbr hlt hfree hsep htab => ?_⟩
  unfold specQ at hS
  split at hS
  case h_2 => cases hS
  rename_i q hq
  split at hS
  case h_2 => cases hS
  rename_i hr hF
  split at hS
  case h_2 => cases hS
  rename_i v hval
  simp only [Option.some.injEq] at hS
  subst hS
  unfold viewH at hq
  generalize reach H 400 [] (idxAs avs) = keep at *
  split at hq
  case h_2 => cases hq
  rename_i avs' H1 hra hrb
  cases hnd : nodupB keep with
  | false => rw [hnd] at hq; cases hq
  | true =>
  rw [hnd] at hq
  simp only [cond_true, Option.some.injEq] at hq
  subst hq
  simp only at hval hF hbr hsep ho hfree ⊢
  have ho2 : obls hr.obl = true ∧ obls (keep.map fun i => posB (H.getD i .gone)) = true := by
    unfold obls at ho ⊢
    rw [List.all_append, Bool.and_eq_true] at ho
    exact ho
  obtain ⟨ho, hpos⟩ := ho2
  obtain ⟨hl1, hg1⟩ := renBs_get hrb
  have hlHc : (roL ros H1).length = keep.length := by rw [roL_length, hl1]
  have nuAt : ∀ {j i}, keep[j]? = some i → keepNu keep ν j = ν i := fun hj => by simp [keepNu, hj]
  have ofNu : ∀ {j b}, keepNu keep ν j = some b → ∃ i, keep[j]? = some i ∧ ν i = some b := by
    intro j b hb
    unfold keepNu at hb
    split at hb
    · rename_i i hi; exact ⟨i, hi, hb⟩
    · cases hb
  have ren_marks : ∀ {b b' : AB}, renB keep b = some b' → b'.wr = b.wr ∧ b'.live = b.live := by
    intro b b' hb
    cases b with
    | cells cs t => simp only [renB, Option.map_eq_some_iff] at hb; obtain ⟨q, _, rfl⟩ := hb; exact ⟨rfl, rfl⟩
    | row => simp only [renB, Option.some.injEq] at hb; subst hb; exact ⟨rfl, rfl⟩
    | gone => simp only [renB, Option.some.injEq] at hb; subst hb; exact ⟨rfl, rfl⟩
  -- the callee's block j is the caller's block keep j
  have view : ∀ {j i}, keep[j]? = some i → ∃ b1, H1[j]? = some b1 ∧ renB keep (H.getD i .gone) = some b1 ∧ (roL ros H1)[j]? = some (roB (ros.getD j false) b1) := by
    intro j i hj
    obtain ⟨b1, e1, e2⟩ := hg1 j i hj
    exact ⟨b1, e1, e2, by rw [roL_get, e1]; rfl⟩
  have wrOf : ∀ {j i}, keep[j]? = some i → ((roL ros H1).getD j .gone).wr = true → (H.getD i .gone).wr = true := by
    intro j i hj hw
    obtain ⟨b1, _, e2, e3⟩ := view hj
    have : (roL ros H1).getD j .gone = roB (ros.getD j false) b1 := by simp [List.getD_eq_getElem?_getD, e3]
    rw [this] at hw
    rw [← (ren_marks e2).1]
    exact roB_wr hw
  have liveOf : ∀ {j i}, keep[j]? = some i → ((roL ros H1).getD j .gone).live = true → (H.getD i .gone).live = true := by
    intro j i hj hw
    obtain ⟨b1, _, e2, e3⟩ := view hj
    have : (roL ros H1).getD j .gone = roB (ros.getD j false) b1 := by simp [List.getD_eq_getElem?_getD, e3]
    rw [this, roB_live] at hw
    rw [← (ren_marks e2).2]
    exact hw
  have roSame : ∀ {r : Bool} {b : AB}, (roB r b).wr = true → roB r b = b := by
    intro r b hw
    cases b with
    | cells => cases r <;> rfl
    | gone => cases r <;> rfl
    | row rw n wd g t => cases r <;> cases rw <;> first | rfl | cases hw
  have inPut : ∀ {j i}, keep[j]? = some i → ((roL ros H1).getD j .gone).wr = true → (i, H.getD i .gone) ∈ putH keep (roL ros H1) (keep.map fun i => H.getD i .gone) := by
    intro j i hj hw
    have hjl : j < keep.length := (List.getElem?_eq_some_iff.1 hj).1
    have hh : (roL ros H1)[j]? = some ((roL ros H1)[j]'(by omega)) := List.getElem?_eq_getElem _
    refine putH_of hj hh (by rw [List.getElem?_map, hj]; rfl) ?_
    have : (roL ros H1).getD j .gone = (roL ros H1)[j]'(by omega) := by simp [List.getD_eq_getElem?_getD, hh]
    rw [← this]; exact hw
  let M : Nat → Prop := fun k => w.heap.size ≤ k ∨ ∃ j b, ((roL ros H1).getD j .gone).wr = true ∧ keepNu keep ν j = some b ∧ b.n = k
  have hRH : RH M (keepNu keep ν) (fun b => (roL ros H1).getD b .gone) w := by
    refine ⟨fun j => ?_, fun i j b b' hne hw hlv hb hb' => ?_, fun i b hw hb => .inr ⟨i, b, hw, hb, rfl⟩, fun i b hb => ?_, htab.mono ?_⟩
    · cases hj : keep[j]? with
      | none =>
        have : (roL ros H1).getD j .gone = .gone := by
          rw [List.getD_eq_getElem?_getD, List.getElem?_eq_none]
          · rfl
          · rw [hlHc]
            exact List.getElem?_eq_none_iff.1 hj
        simp only [this]
        trivial
      | some i =>
        obtain ⟨b1, e1, e2, e3⟩ := view hj
        have : (roL ros H1).getD j .gone = roB (ros.getD j false) b1 := by simp [List.getD_eq_getElem?_getD, e3]
        simp only [this]
        refine roB_br ?_
        have hbi := hbr i (List.mem_of_getElem? hj)
        have hν := nuAt hj
        cases hi : H.getD i .gone with
        | cells cs t =>
          rw [hi] at e2 hbi
          simp only [renB, Option.map_eq_some_iff] at e2
          obtain ⟨cs', h1, h2⟩ := e2
          rw [← h2]
          obtain ⟨b, l, g1, g2, g3, g4⟩ := hbi
          exact ⟨b, l, by rw [hν]; exact g1, g2, g3, g4.ren h1⟩
        | row rw' n wd g t =>
          rw [hi] at e2 hbi
          simp only [renB, Option.some.injEq] at e2
          rw [← e2]
          rcases hbi with ⟨g1, g2, g3⟩ | ⟨b, l, t', fz, g1, g2⟩
          · exact .inl ⟨g1, g2, by rw [hν]; exact g3⟩
          · exact .inr ⟨b, l, t', fz, by rw [hν]; exact g1, g2⟩
        | gone =>
          rw [hi] at e2
          simp only [renB, Option.some.injEq] at e2
          rw [← e2]
          trivial
    · obtain ⟨i', hi, e1⟩ := ofNu hb
      obtain ⟨j', hj, e2⟩ := ofNu hb'
      have hp := inPut hi hw
      refine hsep i' _ j' b b' hp (List.mem_of_getElem? hj) (fun e => ?_) (liveOf hj hlv) e1 e2
      subst e
      exact hne (nodupB_ne hnd i j i' hi hj)
    · obtain ⟨i', _, e1⟩ := ofNu hb
      exact hlt i' b e1
    · rintro k _ (hk | ⟨j, b, hw, hb, rfl⟩)
      · exact .inl hk
      · obtain ⟨i', hi, e1⟩ := ofNu hb
        have hp := inPut hi hw
        exact .inr ⟨i', b, _, hp, e1, rfl⟩
  obtain ⟨H0, Λ, n, hsim, hL, hG⟩ := h avs' (roL ros H1) hr hF ho
  have hl0 : H0.length = keep.length := by rw [← hsim.length, hlHc]
  have hdom0 : ∀ i b, keepNu keep ν i = some b → i < H0.length := by
    intro i b hb
    obtain ⟨i', hi, _⟩ := ofNu hb
    rw [hl0]
    exact (List.getElem?_eq_some_iff.1 hi).1
  refine (calls_pack hΓ mixed enters hf hL (fun k hk => Or.inl hk) hG.out (hv.ren hra) (hRH.sim hsim) hdom0).mono ?_
  rintro e w' ⟨vv, av, He, ν', rfl, ⟨hav, hHe⟩, hvr, hRH', hfr, hle, hdom'⟩
  simp only [List.cons.injEq, and_true] at hav
  subst hav
  have hRH2 := hRH'.sim hHe
  -- a block that may be written has a place
  have wrNu : ∀ {j : Nat}, ((roL ros H1).getD j .gone).wr = true → ∃ b, keepNu keep ν j = some b := by
    intro j hw
    have : BR (keepNu keep ν) j ((roL ros H1).getD j .gone) w := hRH.br j
    cases hb : (roL ros H1).getD j .gone with
    | cells cs t => rw [hb] at this; obtain ⟨b, l, e1, _⟩ := this; exact ⟨b, e1⟩
    | row rw' n wd g t =>
      rw [hb] at this hw
      rcases this with ⟨e1, _⟩ | ⟨b, l, t', fz, e1, _⟩
      · simp only [AB.wr] at hw
        rw [e1] at hw
        cases hw
      · exact ⟨b, e1⟩
    | gone => rw [hb] at hw; cases hw
  have mp : ∀ i i' b, (fun _ : Nat => (none : Option Nat)) i = some i' → ν' i = some b → ν i' = some b := fun i i' b h1 _ => by cases h1
  refine ⟨vv, ν, rfl, ⟨fun i b hb => hb, fun i h1 h2 => (h2 h1).elim, hvr.map mp hval, fun i b hl => ?_, fun j b hj => by simp at hj, hfr.os, hfr.tape, hfr.output, hfr.size, fun k hk hne => ?_, fun j b hj _ => absurd hj (Nat.not_lt_zero _), fun j j' b b' hne hj => absurd hj (Nat.not_lt_zero _)⟩⟩
  · obtain ⟨j, hh, e1, e2, e3, e4⟩ := putH_mem (lookB_mem hl)
    rw [List.getElem?_map, e1] at e3
    simp only [Option.map_some, Option.some.injEq] at e3
    subst e3
    obtain ⟨b1, _, v2, v3⟩ := view e1
    rw [e2, Option.some.injEq] at v3
    subst v3
    have hb1 := roSame e4
    rw [hb1] at e2
    have hout : BR ν' j b1 w' := by
      have := hRH2.br j
      simp only [List.getD_eq_getElem?_getD, e2, Option.getD_some] at this
      exact this
    have hin := hbr i (List.mem_of_getElem? e1)
    have hp : posB (H.getD i .gone) = true := by
      unfold obls at hpos
      rw [List.all_eq_true] at hpos
      exact hpos _ (List.mem_map.2 ⟨i, List.mem_of_getElem? e1, rfl⟩)
    rw [hb1] at e4
    have back : ∀ {b}, ν i = some b → ν' j = some b := fun hb => hle _ _ (by rw [nuAt e1]; exact hb)
    cases hi : H.getD i .gone with
    | cells cs t =>
      rw [hi] at v2 hin hp
      simp only [renB, Option.map_eq_some_iff] at v2
      obtain ⟨cs', h1, h2⟩ := v2
      rw [← h2] at hout
      obtain ⟨b, l, g1, g2, g3, g4⟩ := hin
      obtain ⟨b', l', f1, f2, f3, f4⟩ := hout
      have := back g1
      rw [f1, Option.some.injEq] at this
      subst this
      exact ⟨b', l', g1, f2, f3, VRs.unren hle h1 hp g4 f4⟩
    | row rw' n wd g t =>
      rw [hi] at v2 hin
      simp only [renB, Option.some.injEq] at v2
      rw [← v2] at hout e4
      simp only [AB.wr] at e4
      rcases hin with ⟨g1, _⟩ | ⟨b, l, t', fz, g1, _⟩
      · rw [g1] at e4; cases e4
      · rcases hout with ⟨f1, _⟩ | ⟨b', l', t2, fz2, f1, f2⟩
        · rw [f1] at e4; cases e4
        · have := back g1
          rw [f1, Option.some.injEq] at this
          subst this
          exact .inr ⟨b', l', t2, fz2, g1, f2⟩
    | gone =>
      rw [hi] at v2
      simp only [renB, Option.some.injEq] at v2
      rw [← v2] at e4
      cases e4
  · refine hfr.block k hk fun hM => ?_
    rcases hM with hM | ⟨j, b, hw, hb, e⟩
    · omega
    · obtain ⟨i, hi, e1⟩ := ofNu hb
      exact hne _ b (inPut hi hw) e1 e

end Go.Proofs.YtcadinbahmliiaaGreatDoor

/- Rows of entries; BookFind of both: trees. Conditions: entries, a list of wheels. -/
namespace Go.Proofs.YtcadinbahmliiaaGreatDoor
open Go.RowKit
set_option maxRecDepth 100000

abbrev rowE (ft : Nat → ByteArray) (fc : Nat → Int) : Nat → List Value := fun j => [.string (ft j), .int .u32 (fc j)]
def isE : List Value → Bool
  | [.string _, .int .u32 _] => true
  | _ => false
def stOf : Value → ByteArray
  | .string s => s
  | _ => ⟨#[]⟩
def u3Of : Value → Int
  | .int .u32 n => n
  | _ => 0
def itT (g : Nat → List Value) (j : Nat) : ByteArray := stOf ((g j).getD 0 undef)
def itC (g : Nat → List Value) (j : Nat) : Int := u3Of ((g j).getD 1 undef)
def allE (m : Nat) (g : Nat → List Value) : Bool := (List.range m).all fun j => isE (g j)
theorem allE_get {m : Nat} {g : Nat → List Value} (h : allE m g = true) (j : Nat) (hj : j < m) : g j = rowE (itT g) (itC g) j := by
  have := List.all_eq_true.1 h j (by simpa using hj)
  simp only [rowE, itT, itC]
  unfold isE at this
  split at this
  · rename_i e; rw [e]; rfl
  · cases this
theorem allE_of {m : Nat} {ft : Nat → ByteArray} {fc : Nat → Int} {g : Nat → List Value} (h : ∀ j, j < m → g j = rowE ft fc j) : allE m g = true := List.all_eq_true.2 fun j hj => by
  rw [h j (by simpa using hj)]; rfl
theorem allE_row (m : Nat) (ft : Nat → ByteArray) (fc : Nat → Int) : allE m (rowE ft fc) = true := allE_of (ft := ft) (fc := fc) fun _ _ => rfl
theorem itT_row (ft : Nat → ByteArray) (fc : Nat → Int) : itT (rowE ft fc) = ft := rfl
theorem itC_row (ft : Nat → ByteArray) (fc : Nat → Int) : itC (rowE ft fc) = fc := rfl

def hitE (er : ByteArray → Int → Bool) (tr : ByteArray → List Wh) (ak : List Wh → List Wh → Bool) (ft : Nat → ByteArray) (fc : Nat → Int) (D : List Wh) (j : Nat) : Bool := er (ft j) (fc j) && ak (tr (ft j)) D

noncomputable abbrev fIFE : Func := Tryz.f61
def gmBf (yr : ByteArray → Bool) (tr : ByteArray → List Wh) (cv : List Wh → Int) (cy : List Wh → Bool) (an : List Wh → List Wh → Int) (ak : List Wh → List Wh → Bool) : Gam := ext (gmErI yr tr cv cy) 34 (specR md_eqWS (FakV an ak))
abbrev lvBf : Ex → List Nat := lv3 [0, 1, 7, 8] [] [4]
abbrev fnBf : AV := .fn 62 [.ptr 1 0 0 0]
abbrev hpBf (m' : Nat) (ft : Nat → ByteArray) (fc : Nat → Int) (n : Nat) (h : Nat → Nat → Int) (t1 t2 t3 : TypeId) : List AB := [.row true m' 2 (rowE ft fc) t1, .cells [.own 2 n] t2, .row true n 9 (row9 h) t3]
abbrev hpBw (m' : Nat) (ft : Nat → ByteArray) (fc : Nat → Int) (n : Nat) (h : Nat → Nat → Int) (t1 t3 : TypeId) : List AB := [.row true m' 2 (rowE ft fc) t1, .row true n 9 (row9 h) t3]
theorem rndBfO_h (yr : ByteArray → Bool) (tr : ByteArray → List Wh) (cv : List Wh → Int) (cy : List Wh → Bool) (an : List Wh → List Wh → Int) (ak : List Wh → List Wh → Bool) (_co : Option Nat) (m m' : Nat) (ft : Nat → ByteArray) (fc : Nat → Int) (n : Nat) (h : Nat → Nat → Int) (t1 t2 t3 : TypeId) (i : Nat) (u1 : _) (hu1 : [AB.row true m' 2 (rowE ft fc) t1, AB.cells [AV.own 2 n] t2, AB.row true n 9 (row9 h) t3] = u1) (u4 : _) (hu4 : (↑i : Int) = u4) (u8 : _) (hu8 : (0 : Nat) = u8) (u0 : _) (hu0 : [AV.own u8 m, AV.fn (62 : FuncId) [AV.ptr (1 : Nat) u8 u8 u8], AV.v (.int .i64 (m : Int)), AV.v (.int .i64 (IntKind.wrap .i64 (u4 + (1 : Int))))] = u0) (u2 : _) (hu2 : (tr (ft (Int.toNat u4))) = u2) (u3 : _) (hu3 : (listW (itW fun q ↦ row9 (wfun u2) (u8 + q)) (List.length u2)) = u3) (u5 : _) (hu5 : (allW (List.length u2) fun q ↦ row9 (wfun u2) (u8 + q)) = u5) (u6 : _) (hu6 : (Nat.ble (u8 + List.length u2) (List.length u2)) = u6) (u7 : _) (hu7 : (decide (List.length u2 ≤ (274877906944 : Nat))) = u7) : execC Tryz.prog (gmBf yr tr cv cy an ak) 100 noLam (loopAt 0 fIFE) (mkT 0 19 ((lvBf .normal).zip [.own 0 m, fnBf, .v (i64 m), .v (i64 i)])) (hpBf m' ft fc n h t1 t2 t3) (leafV 19 lvBf 3)
    = bif decide (u4 < (m : Int)) then needs [decide (u4 < (m : Int)), decide (Int.toNat u4 < m'), u6, u5, u7] (bif yr (ft (Int.toNat u4)) then bif cy u3 then bif !cv u3 == fc (Int.toNat u4) then Res.out .normal u0 u1 else needs [u6, Nat.ble n n, u5, allW n (row9 h), u7, decide (n ≤ (274877906944 : Nat))] (bif ak u3 (listW (itW (row9 h)) n) then Res.out .ret [AV.v (.int .i64 u4)] u1 else Res.out .normal u0 u1) else Res.out .normal u0 u1 else Res.out .normal u0 u1) else Res.out (Ex.exit u8) [] u1 := by
  subst hu7 hu6 hu5 hu3 hu2 hu0 hu8 hu4 hu1
  kernel_rfl
theorem rndBfO (yr : ByteArray → Bool) (tr : ByteArray → List Wh) (cv : List Wh → Int) (cy : List Wh → Bool) (an : List Wh → List Wh → Int) (ak : List Wh → List Wh → Bool) (_co : Option Nat) (m m' : Nat) (ft : Nat → ByteArray) (fc : Nat → Int) (n : Nat) (h : Nat → Nat → Int) (t1 t2 t3 : TypeId) (i : Nat) : type_of% (rndBfO_h yr tr cv cy an ak _co m m' ft fc n h t1 t2 t3 i _ rfl _ rfl _ rfl _ rfl _ rfl _ rfl _ rfl _ rfl _ rfl) := rndBfO_h yr tr cv cy an ak _co m m' ft fc n h t1 t2 t3 i _ rfl _ rfl _ rfl _ rfl _ rfl _ rfl _ rfl _ rfl _ rfl

noncomputable abbrev lamBfO (_co : Option Nat) (m m' : Nat) (ft : Nat → ByteArray) (fc : Nat → Int) (n : Nat) (h : Nat → Nat → Int) (t1 t2 t3 : TypeId) (hit : Nat → Bool) : Nat → Option Sum := oneL 0 (atS 19 (lvBf .normal) 3 [.own 0 m, fnBf, .v (i64 m), .v (i64 (0 : Nat))] (hpBf m' ft fc n h t1 t2 t3) (fun K => cond (noneTo hit m) (K .normal (mkT 0 19 []) (hpBf m' ft fc n h t1 t2 t3)) (K .ret (mkT 0 19 [(4, .v (i64 (fstAt hit m)))]) (hpBf m' ft fc n h t1 t2 t3))))
theorem treeBfO (yr : ByteArray → Bool) (tr : ByteArray → List Wh) (cv : List Wh → Int) (cy : List Wh → Bool) (an : List Wh → List Wh → Int) (ak : List Wh → List Wh → Bool) (_co : Option Nat) (m m' : Nat) (ft : Nat → ByteArray) (fc : Nat → Int) (n : Nat) (h : Nat → Nat → Int) (t1 t2 t3 : TypeId) (hit : Nat → Bool) : execF Tryz.prog (gmBf yr tr cv cy an ak) (lamBfO _co m m' ft fc n h t1 t2 t3 hit) 100 fIFE [.own 0 m, fnBf] (hpBf m' ft fc n h t1 t2 t3) (packK 3)
    = needs [chk ([AV.own 0 m, AV.fn (62 : FuncId) [AV.ptr (1 : Nat) (0 : Nat) (0 : Nat) (0 : Nat)], AV.v (.int .i64 (m : Int)), AV.v (.int .i64 0)] = [AV.own 0 m, fnBf, AV.v (.int .i64 (m : Int)), AV.v (.int .i64 0)] ∧ Hsim [AB.row true m' 2 (rowE ft fc) t1, AB.cells [AV.own 2 n] t2, AB.row true n 9 (row9 h) t3] (hpBf m' ft fc n h t1 t2 t3))] (bif noneTo hit m then Res.out .ret [AV.v (.int .i64 (-1 : Int))] [AB.row true m' 2 (rowE ft fc) t1, AB.cells [AV.own 2 n] t2, AB.row true n 9 (row9 h) t3] else Res.out .ret [AV.v (.int .i64 (fstAt hit m))] [AB.row true m' 2 (rowE ft fc) t1, AB.cells [AV.own 2 n] t2, AB.row true n 9 (row9 h) t3]) := by kernel_rfl

theorem rndBfL_h (yr : ByteArray → Bool) (tr : ByteArray → List Wh) (cv : List Wh → Int) (cy : List Wh → Bool) (an : List Wh → List Wh → Int) (ak : List Wh → List Wh → Bool) (co : Option Nat) (m m' : Nat) (ft : Nat → ByteArray) (fc : Nat → Int) (n : Nat) (h : Nat → Nat → Int) (t1 t2 t3 : TypeId) (i : Nat) (u2 : _) (hu2 : [AB.row true m' 2 (rowE ft fc) t1, AB.cells [AV.own 2 n] t2, AB.row true n 9 (row9 h) t3] = u2) (u4 : _) (hu4 : (0 : Nat) = u4) (u5 : _) (hu5 : (↑i : Int) = u5) (u0 : _) (hu0 : [AV.sl u4 (2 : Nat) u4 u4 m co, AV.fn (62 : FuncId) [AV.ptr (1 : Nat) u4 u4 u4], AV.v (.int .i64 (m : Int)), AV.v (.int .i64 (IntKind.wrap .i64 (u5 + (1 : Int))))] = u0) (u1 : _) (hu1 : (tr (ft (u4 + Int.toNat u5))) = u1) (u6 : _) (hu6 : (List.length u1) = u6) (u7 : _) (hu7 : (decide (List.length u1 ≤ (274877906944 : Nat))) = u7) (u8 : _) (hu8 : (allW u6 fun q ↦ row9 (wfun u1) (u4 + q)) = u8) (u3 : _) (hu3 : (listW (itW fun q ↦ row9 (wfun u1) (u4 + q)) u6) = u3) : execC Tryz.prog (gmBf yr tr cv cy an ak) 100 noLam (loopAt 0 fIFE) (mkT 0 19 ((lvBf .normal).zip [.sl 0 2 0 0 m co, fnBf, .v (i64 m), .v (i64 i)])) (hpBf m' ft fc n h t1 t2 t3) (leafV 19 lvBf 3)
    = bif decide (u5 < (m : Int)) then needs [decide (u5 < (m : Int)), decide (u4 + Int.toNat u5 < m'), Nat.ble (u4 + List.length u1) u6, u8, u7] (bif yr (ft (u4 + Int.toNat u5)) then bif cy u3 then bif !cv u3 == fc (u4 + Int.toNat u5) then Res.out .normal u0 u2 else needs [Nat.ble (u4 + List.length u1) u6, Nat.ble n n, u8, allW n (row9 h), u7, decide (n ≤ (274877906944 : Nat))] (bif ak u3 (listW (itW (row9 h)) n) then Res.out .ret [AV.v (.int .i64 u5)] u2 else Res.out .normal u0 u2) else Res.out .normal u0 u2 else Res.out .normal u0 u2) else Res.out (Ex.exit u4) [] u2 := by
  subst hu3 hu8 hu7 hu6 hu1 hu0 hu5 hu4 hu2
  kernel_rfl
theorem rndBfL (yr : ByteArray → Bool) (tr : ByteArray → List Wh) (cv : List Wh → Int) (cy : List Wh → Bool) (an : List Wh → List Wh → Int) (ak : List Wh → List Wh → Bool) (co : Option Nat) (m m' : Nat) (ft : Nat → ByteArray) (fc : Nat → Int) (n : Nat) (h : Nat → Nat → Int) (t1 t2 t3 : TypeId) (i : Nat) : type_of% (rndBfL_h yr tr cv cy an ak co m m' ft fc n h t1 t2 t3 i _ rfl _ rfl _ rfl _ rfl _ rfl _ rfl _ rfl _ rfl _ rfl) := rndBfL_h yr tr cv cy an ak co m m' ft fc n h t1 t2 t3 i _ rfl _ rfl _ rfl _ rfl _ rfl _ rfl _ rfl _ rfl _ rfl

noncomputable abbrev lamBfL (co : Option Nat) (m m' : Nat) (ft : Nat → ByteArray) (fc : Nat → Int) (n : Nat) (h : Nat → Nat → Int) (t1 t2 t3 : TypeId) (hit : Nat → Bool) : Nat → Option Sum := oneL 0 (atS 19 (lvBf .normal) 3 [.sl 0 2 0 0 m co, fnBf, .v (i64 m), .v (i64 (0 : Nat))] (hpBf m' ft fc n h t1 t2 t3) (fun K => cond (noneTo hit m) (K .normal (mkT 0 19 []) (hpBf m' ft fc n h t1 t2 t3)) (K .ret (mkT 0 19 [(4, .v (i64 (fstAt hit m)))]) (hpBf m' ft fc n h t1 t2 t3))))
theorem treeBfL (yr : ByteArray → Bool) (tr : ByteArray → List Wh) (cv : List Wh → Int) (cy : List Wh → Bool) (an : List Wh → List Wh → Int) (ak : List Wh → List Wh → Bool) (co : Option Nat) (m m' : Nat) (ft : Nat → ByteArray) (fc : Nat → Int) (n : Nat) (h : Nat → Nat → Int) (t1 t2 t3 : TypeId) (hit : Nat → Bool) : execF Tryz.prog (gmBf yr tr cv cy an ak) (lamBfL co m m' ft fc n h t1 t2 t3 hit) 100 fIFE [.sl 0 2 0 0 m co, fnBf] (hpBf m' ft fc n h t1 t2 t3) (packK 3)
    = needs [chk ([AV.sl 0 (2 : Nat) (0 : Nat) (0 : Nat) m co, AV.fn (62 : FuncId) [AV.ptr (1 : Nat) (0 : Nat) (0 : Nat) (0 : Nat)], AV.v (.int .i64 (m : Int)), AV.v (.int .i64 0)] = [AV.sl 0 (2 : Nat) (0 : Nat) (0 : Nat) m co, fnBf, AV.v (.int .i64 (m : Int)), AV.v (.int .i64 0)] ∧ Hsim [AB.row true m' 2 (rowE ft fc) t1, AB.cells [AV.own 2 n] t2, AB.row true n 9 (row9 h) t3] (hpBf m' ft fc n h t1 t2 t3))] (bif noneTo hit m then Res.out .ret [AV.v (.int .i64 (-1 : Int))] [AB.row true m' 2 (rowE ft fc) t1, AB.cells [AV.own 2 n] t2, AB.row true n 9 (row9 h) t3] else Res.out .ret [AV.v (.int .i64 (fstAt hit m))] [AB.row true m' 2 (rowE ft fc) t1, AB.cells [AV.own 2 n] t2, AB.row true n 9 (row9 h) t3]) := by kernel_rfl

def FifE (hit : (Nat → ByteArray) → (Nat → Int) → List Wh → Nat → Bool) : List AV → List AB → Option QRd
  | [.own 0 m, .fn 62 [.ptr 1 0 0 0]], [.row true m' 2 g _, .cells [.own 2 n] _, .row true n' 9 h _] => some { val := .v (i64 (fstAt (hit (itT g) (itC g) (listW (itW h) n)) m)), obl := [Nat.ble m m', Nat.beq n n', allE m' g, allW n h, decide (m ≤ 2 ^ 38), decide (n ≤ 2 ^ 38)] }
  | [.sl 0 2 0 0 m _, .fn 62 [.ptr 1 0 0 0]], [.row true m' 2 g _, .cells [.own 2 n] _, .row true n' 9 h _] => some { val := .v (i64 (fstAt (hit (itT g) (itC g) (listW (itW h) n)) m)), obl := [Nat.ble m m', Nat.beq n n', allE m' g, allW n h, decide (m ≤ 2 ^ 38), decide (n ≤ 2 ^ 38)] }
  | _, _ => none
def gmBF (hit : (Nat → ByteArray) → (Nat → Int) → List Wh → Nat → Bool) : Gam := ext g0 61 (specQ [] (FifE hit))
theorem treeBFO (hit : (Nat → ByteArray) → (Nat → Int) → List Wh → Nat → Bool) (_co : Option Nat) (m m' : Nat) (ft : Nat → ByteArray) (fc : Nat → Int) (n : Nat) (h : Nat → Nat → Int) (t1 t3 : TypeId) : execF Tryz.prog (gmBF hit) noLam 100 Tryz.f31 [.own 0 m, .own 1 n] (hpBw m' ft fc n h t1 t3) (packK 2)
    = needs [Nat.ble m m', Nat.beq n n, allE m' (rowE ft fc), allW n (row9 h), decide (m ≤ (274877906944 : Nat)), decide (n ≤ (274877906944 : Nat))] (Res.out .ret [AV.v (.int .i64 (fstAt (hit (itT (rowE ft fc)) (itC (rowE ft fc)) (listW (itW (row9 h)) n)) m))] [AB.row true m' 2 (rowE ft fc) t1, AB.row true n 9 (row9 h) t3]) := by kernel_rfl

theorem treeBFL (hit : (Nat → ByteArray) → (Nat → Int) → List Wh → Nat → Bool) (co : Option Nat) (m m' : Nat) (ft : Nat → ByteArray) (fc : Nat → Int) (n : Nat) (h : Nat → Nat → Int) (t1 t3 : TypeId) : execF Tryz.prog (gmBF hit) noLam 100 Tryz.f31 [.sl 0 2 0 0 m co, .own 1 n] (hpBw m' ft fc n h t1 t3) (packK 2)
    = needs [Nat.ble m m', Nat.beq n n, allE m' (rowE ft fc), allW n (row9 h), decide (m ≤ (274877906944 : Nat)), decide (n ≤ (274877906944 : Nat))] (Res.out .ret [AV.v (.int .i64 (fstAt (hit (itT (rowE ft fc)) (itC (rowE ft fc)) (listW (itW (row9 h)) n)) m))] [AB.row true m' 2 (rowE ft fc) t1, AB.row true n 9 (row9 h) t3]) := by kernel_rfl


def gmBs (er : ByteArray → Int → Bool) (yr : ByteArray → Bool) (tr : ByteArray → List Wh) (an : List Wh → List Wh → Int) (ak : List Wh → List Wh → Bool) : Gam := ext (ext (ext g0 11 (specR [.val] (FerO er))) 35 (specR [.val] (FreO yr tr))) 59 (specR md_eqWS (FakV an ak))
abbrev lvBs : Ex → List Nat := lv3 [0, 1, 5] [] [4]
theorem rndBsO_h (er : ByteArray → Int → Bool) (yr : ByteArray → Bool) (tr : ByteArray → List Wh) (an : List Wh → List Wh → Int) (ak : List Wh → List Wh → Bool) (_co : Option Nat) (m m' : Nat) (ft : Nat → ByteArray) (fc : Nat → Int) (n : Nat) (h : Nat → Nat → Int) (t1 t3 : TypeId) (i : Nat) (u0 : _) (hu0 : [AB.row true m' 2 (rowE ft fc) t1, AB.row true n 9 (row9 h) t3] = u0) (u3 : _) (hu3 : (↑i : Int) = u3) (u1 : _) (hu1 : (tr (ft (Int.toNat u3))) = u1) (u2 : _) (hu2 : [AV.own 0 m, AV.own 1 n, AV.v (.int .i64 (IntKind.wrap .i64 (u3 + (1 : Int))))] = u2) (u4 : _) (hu4 : (List.length u1) = u4) : execC Tryz.prog (gmBs er yr tr an ak) 100 noLam (loopAt 0 Tryz.f29) (mkT 0 39 ((lvBs .normal).zip [.own 0 m, .own 1 n, .v (i64 i)])) (hpBw m' ft fc n h t1 t3) (leafV 39 lvBs 2)
    = bif decide (u3 < (m : Int)) then needs [decide (u3 < (m : Int)), decide (Int.toNat u3 < m')] (bif !er (ft (Int.toNat u3)) (fc (Int.toNat u3)) then Res.out .normal u2 u0 else needs [decide (u3 < (m : Int)), decide (Int.toNat u3 < m'), Nat.ble u4 u4, Nat.ble n n, allW u4 (row9 (wfun u1)), allW n (row9 h), decide (List.length u1 ≤ (274877906944 : Nat)), decide (n ≤ (274877906944 : Nat))] (bif ak (listW (itW (row9 (wfun u1))) u4) (listW (itW (row9 h)) n) then Res.out .ret [AV.v (.int .i64 u3)] u0 else Res.out .normal u2 u0)) else Res.out (Ex.exit (0 : Nat)) [] u0 := by
  subst hu4 hu2 hu1 hu3 hu0
  kernel_rfl
theorem rndBsO (er : ByteArray → Int → Bool) (yr : ByteArray → Bool) (tr : ByteArray → List Wh) (an : List Wh → List Wh → Int) (ak : List Wh → List Wh → Bool) (_co : Option Nat) (m m' : Nat) (ft : Nat → ByteArray) (fc : Nat → Int) (n : Nat) (h : Nat → Nat → Int) (t1 t3 : TypeId) (i : Nat) : type_of% (rndBsO_h er yr tr an ak _co m m' ft fc n h t1 t3 i _ rfl _ rfl _ rfl _ rfl _ rfl) := rndBsO_h er yr tr an ak _co m m' ft fc n h t1 t3 i _ rfl _ rfl _ rfl _ rfl _ rfl

noncomputable abbrev lamBsO (_co : Option Nat) (m m' : Nat) (ft : Nat → ByteArray) (fc : Nat → Int) (n : Nat) (h : Nat → Nat → Int) (t1 t3 : TypeId) (hit : Nat → Bool) : Nat → Option Sum := oneL 0 (atS 39 (lvBs .normal) 2 [.own 0 m, .own 1 n, .v (i64 (0 : Nat))] (hpBw m' ft fc n h t1 t3) (fun K => cond (noneTo hit m) (K .normal (mkT 0 39 []) (hpBw m' ft fc n h t1 t3)) (K .ret (mkT 0 39 [(4, .v (i64 (fstAt hit m)))]) (hpBw m' ft fc n h t1 t3))))
theorem treeBsO (er : ByteArray → Int → Bool) (yr : ByteArray → Bool) (tr : ByteArray → List Wh) (an : List Wh → List Wh → Int) (ak : List Wh → List Wh → Bool) (_co : Option Nat) (m m' : Nat) (ft : Nat → ByteArray) (fc : Nat → Int) (n : Nat) (h : Nat → Nat → Int) (t1 t3 : TypeId) (hit : Nat → Bool) : execF Tryz.prog (gmBs er yr tr an ak) (lamBsO _co m m' ft fc n h t1 t3 hit) 100 Tryz.f29 [.own 0 m, .own 1 n] (hpBw m' ft fc n h t1 t3) (packK 2)
    = needs [chk ([AV.own 0 m, AV.own 1 n, AV.v (.int .i64 0)] = [AV.own 0 m, AV.own 1 n, AV.v (.int .i64 0)] ∧ Hsim [AB.row true m' 2 (rowE ft fc) t1, AB.row true n 9 (row9 h) t3] (hpBw m' ft fc n h t1 t3))] (bif noneTo hit m then Res.out .ret [AV.v (.int .i64 (-1 : Int))] [AB.row true m' 2 (rowE ft fc) t1, AB.row true n 9 (row9 h) t3] else Res.out .ret [AV.v (.int .i64 (fstAt hit m))] [AB.row true m' 2 (rowE ft fc) t1, AB.row true n 9 (row9 h) t3]) := by kernel_rfl

theorem rndBsL_h (er : ByteArray → Int → Bool) (yr : ByteArray → Bool) (tr : ByteArray → List Wh) (an : List Wh → List Wh → Int) (ak : List Wh → List Wh → Bool) (co : Option Nat) (m m' : Nat) (ft : Nat → ByteArray) (fc : Nat → Int) (n : Nat) (h : Nat → Nat → Int) (t1 t3 : TypeId) (i : Nat) (u1 : _) (hu1 : [AB.row true m' 2 (rowE ft fc) t1, AB.row true n 9 (row9 h) t3] = u1) (u3 : _) (hu3 : (↑i : Int) = u3) (u5 : _) (hu5 : (0 : Nat) = u5) (u0 : _) (hu0 : (ft (u5 + Int.toNat u3)) = u0) (u2 : _) (hu2 : [AV.sl u5 (2 : Nat) u5 u5 m co, AV.own 1 n, AV.v (.int .i64 (IntKind.wrap .i64 (u3 + (1 : Int))))] = u2) (u4 : _) (hu4 : (List.length (tr u0)) = u4) : execC Tryz.prog (gmBs er yr tr an ak) 100 noLam (loopAt 0 Tryz.f29) (mkT 0 39 ((lvBs .normal).zip [.sl 0 2 0 0 m co, .own 1 n, .v (i64 i)])) (hpBw m' ft fc n h t1 t3) (leafV 39 lvBs 2)
    = bif decide (u3 < (m : Int)) then needs [decide (u3 < (m : Int)), decide (u5 + Int.toNat u3 < m')] (bif !er u0 (fc (u5 + Int.toNat u3)) then Res.out .normal u2 u1 else needs [decide (u3 < (m : Int)), decide (u5 + Int.toNat u3 < m'), Nat.ble u4 u4, Nat.ble n n, allW u4 (row9 (wfun (tr u0))), allW n (row9 h), decide (List.length (tr u0) ≤ (274877906944 : Nat)), decide (n ≤ (274877906944 : Nat))] (bif ak (listW (itW (row9 (wfun (tr u0)))) u4) (listW (itW (row9 h)) n) then Res.out .ret [AV.v (.int .i64 u3)] u1 else Res.out .normal u2 u1)) else Res.out (Ex.exit u5) [] u1 := by
  subst hu4 hu2 hu0 hu5 hu3 hu1
  kernel_rfl
theorem rndBsL (er : ByteArray → Int → Bool) (yr : ByteArray → Bool) (tr : ByteArray → List Wh) (an : List Wh → List Wh → Int) (ak : List Wh → List Wh → Bool) (co : Option Nat) (m m' : Nat) (ft : Nat → ByteArray) (fc : Nat → Int) (n : Nat) (h : Nat → Nat → Int) (t1 t3 : TypeId) (i : Nat) : type_of% (rndBsL_h er yr tr an ak co m m' ft fc n h t1 t3 i _ rfl _ rfl _ rfl _ rfl _ rfl _ rfl) := rndBsL_h er yr tr an ak co m m' ft fc n h t1 t3 i _ rfl _ rfl _ rfl _ rfl _ rfl _ rfl

noncomputable abbrev lamBsL (co : Option Nat) (m m' : Nat) (ft : Nat → ByteArray) (fc : Nat → Int) (n : Nat) (h : Nat → Nat → Int) (t1 t3 : TypeId) (hit : Nat → Bool) : Nat → Option Sum := oneL 0 (atS 39 (lvBs .normal) 2 [.sl 0 2 0 0 m co, .own 1 n, .v (i64 (0 : Nat))] (hpBw m' ft fc n h t1 t3) (fun K => cond (noneTo hit m) (K .normal (mkT 0 39 []) (hpBw m' ft fc n h t1 t3)) (K .ret (mkT 0 39 [(4, .v (i64 (fstAt hit m)))]) (hpBw m' ft fc n h t1 t3))))
theorem treeBsL (er : ByteArray → Int → Bool) (yr : ByteArray → Bool) (tr : ByteArray → List Wh) (an : List Wh → List Wh → Int) (ak : List Wh → List Wh → Bool) (co : Option Nat) (m m' : Nat) (ft : Nat → ByteArray) (fc : Nat → Int) (n : Nat) (h : Nat → Nat → Int) (t1 t3 : TypeId) (hit : Nat → Bool) : execF Tryz.prog (gmBs er yr tr an ak) (lamBsL co m m' ft fc n h t1 t3 hit) 100 Tryz.f29 [.sl 0 2 0 0 m co, .own 1 n] (hpBw m' ft fc n h t1 t3) (packK 2)
    = needs [chk ([AV.sl 0 (2 : Nat) (0 : Nat) (0 : Nat) m co, AV.own 1 n, AV.v (.int .i64 0)] = [AV.sl 0 (2 : Nat) (0 : Nat) (0 : Nat) m co, AV.own 1 n, AV.v (.int .i64 0)] ∧ Hsim [AB.row true m' 2 (rowE ft fc) t1, AB.row true n 9 (row9 h) t3] (hpBw m' ft fc n h t1 t3))] (bif noneTo hit m then Res.out .ret [AV.v (.int .i64 (-1 : Int))] [AB.row true m' 2 (rowE ft fc) t1, AB.row true n 9 (row9 h) t3] else Res.out .ret [AV.v (.int .i64 (fstAt hit m))] [AB.row true m' 2 (rowE ft fc) t1, AB.row true n 9 (row9 h) t3]) := by kernel_rfl


end Go.Proofs.YtcadinbahmliiaaGreatDoor

/- BookFind of both: their words. Conditions: entries, a list of wheels. -/
namespace Go.Proofs.YtcadinbahmliiaaGreatDoor
open Go.RowKit
set_option maxRecDepth 100000

def hitB (ft : Nat → ByteArray) (fc : Nat → Int) (D : List Wh) (j : Nat) : Bool := hitE erB tRI aY ft fc D j
def FbfO (hit : (Nat → ByteArray) → (Nat → Int) → List Wh → Nat → Bool) : List AV → List AB → Option QRd
  | [.own 0 m, .own 1 n], [.row true m' 2 g _, .row true n' 9 h _] => some { val := .v (i64 (fstAt (hit (itT g) (itC g) (listW (itW h) n)) m)), obl := [Nat.ble m m', Nat.beq n n', allE m' g, allW n h, decide (m ≤ 2 ^ 38), decide (n ≤ 2 ^ 38)] }
  | [.sl 0 2 0 0 m _, .own 1 n], [.row true m' 2 g _, .row true n' 9 h _] => some { val := .v (i64 (fstAt (hit (itT g) (itC g) (listW (itW h) n)) m)), obl := [Nat.ble m m', Nat.beq n n', allE m' g, allW n h, decide (m ≤ 2 ^ 38), decide (n ≤ 2 ^ 38)] }
  | _, _ => none

theorem gmBf_ok : GamOk Tryz.prog (gmBf yRI tRI ckV ckY aN aY) := ext_ok gmErI_ok ok_akI
theorem sumBfO (_co : Option Nat) (m m' : Nat) (ft : Nat → ByteArray) (fc : Nat → Int) (n : Nat) (h : Nat → Nat → Int) (t1 t2 t3 : TypeId) (hmm : m ≤ m') (hm : m ≤ 2 ^ 38) (hn : n ≤ 2 ^ 38) :
    SumOk Tryz.prog 3 (.block 0 (.loop (loopAt 0 fIFE))) (atS 19 (lvBf .normal) 3 [.own 0 m, fnBf, .v (i64 m), .v (i64 (0 : Nat))] (hpBf m' ft fc n h t1 t2 t3) (fun K => cond (noneTo (hitB ft fc (listW h n)) m) (K .normal (mkT 0 19 []) (hpBf m' ft fc n h t1 t2 t3)) (K .ret (mkT 0 19 [(4, .v (i64 (fstAt (hitB ft fc (listW h n)) m)))]) (hpBf m' ft fc n h t1 t2 t3)))) := by
  refine for_at gmBf_ok (n := 100) (m := 3) (lv := lvBf) (fun i => [.own 0 m, fnBf, .v (i64 m), .v (i64 (i : Nat))]) (fun _ => hpBf m' ft fc n h t1 t2 t3) (fun i => noneTo (hitB ft fc (listW h n)) i = true) m (fun _ => noLam) (lv3_ris rfl rfl rfl) (Nat.le_refl _) rfl fun K Q hk i hi him => ⟨noLam_ok _ _ _, ?_⟩
  rw [rndBfO (_co := none)]
  refine good_cond (fun c1 => ?_) fun c1 => ?_
  · have c1 := of_decide_eq_true c1
    have c1' : i < m := by omega
    rw [Int.toNat_natCast, wr_in (x := (i : Int) + 1) (by omega)]
    have hl := tRI_len (ft i)
    simp only [row0]
    rw [listW_me (tRI (ft i)), show listW (itW (row9 h)) n = listW h n from rfl]
    have no : hitB ft fc (listW h n) i = false → RoundV 19 0 lvBf (fun i => [.own 0 m, fnBf, .v (i64 m), .v (i64 (i : Nat))]) (fun _ => hpBf m' ft fc n h t1 t2 t3) (fun s' => s' = i + 1 ∧ i < m ∧ noneTo (hitB ft fc (listW h n)) (i + 1) = true) K Q .normal [.own 0 m, fnBf, .v (i64 m), .v (i64 ((i : Int) + 1))] (hpBf m' ft fc n h t1 t2 t3) := fun q =>
      ⟨i + 1, ⟨rfl, c1', noneTo_succ hi q⟩, rfl, Hsim.refl _⟩
    refine good_needs (by simp only [ob_cons, ob_nil, and_true, decide_eq_true_eq, Nat.ble_eq, allW_row, true_and]; omega) (good_cond (fun q1 => good_cond (fun q2 => good_cond (fun q3 => good_out (no ?_)) fun q3 => good_needs (by simp only [ob_cons, ob_nil, and_true, decide_eq_true_eq, Nat.ble_eq, allW_row, true_and]; omega) (good_cond (fun q4 => good_out ?_) fun q4 => good_out (no ?_))) fun q2 => good_out (no ?_)) fun q1 => good_out (no ?_))
    · rw [Bool.not_eq_true'] at q3
      rw [hitB, hitE, erB, q1, q2, q3]; rfl
    · rw [Bool.not_eq_false'] at q3
      have hh : hitB ft fc (listW h n) i = true := by rw [hitB, hitE, erB, q1, q2, q3, q4]; rfl
      refine ⟨_, Hsim.refl _, ?_⟩
      rw [noneTo_no c1' hh, fstAt_at hi c1' hh] at hk
      exact hk
    · rw [hitB, hitE, q4, Bool.and_false]
    · rw [hitB, hitE, erB, q2]; simp
    · rw [hitB, hitE, erB, q1]; rfl
  · have c1 := of_decide_eq_false c1
    have : i = m := by omega
    subst this
    refine good_out ⟨_, Hsim.refl _, ?_⟩
    rw [if_pos rfl]
    rw [hi] at hk
    exact hk
theorem sumBfL (co : Option Nat) (m m' : Nat) (ft : Nat → ByteArray) (fc : Nat → Int) (n : Nat) (h : Nat → Nat → Int) (t1 t2 t3 : TypeId) (hmm : m ≤ m') (hm : m ≤ 2 ^ 38) (hn : n ≤ 2 ^ 38) :
    SumOk Tryz.prog 3 (.block 0 (.loop (loopAt 0 fIFE))) (atS 19 (lvBf .normal) 3 [.sl 0 2 0 0 m co, fnBf, .v (i64 m), .v (i64 (0 : Nat))] (hpBf m' ft fc n h t1 t2 t3) (fun K => cond (noneTo (hitB ft fc (listW h n)) m) (K .normal (mkT 0 19 []) (hpBf m' ft fc n h t1 t2 t3)) (K .ret (mkT 0 19 [(4, .v (i64 (fstAt (hitB ft fc (listW h n)) m)))]) (hpBf m' ft fc n h t1 t2 t3)))) := by
  refine for_at gmBf_ok (n := 100) (m := 3) (lv := lvBf) (fun i => [.sl 0 2 0 0 m co, fnBf, .v (i64 m), .v (i64 (i : Nat))]) (fun _ => hpBf m' ft fc n h t1 t2 t3) (fun i => noneTo (hitB ft fc (listW h n)) i = true) m (fun _ => noLam) (lv3_ris rfl rfl rfl) (Nat.le_refl _) rfl fun K Q hk i hi him => ⟨noLam_ok _ _ _, ?_⟩
  rw [rndBfL]
  refine good_cond (fun c1 => ?_) fun c1 => ?_
  · have c1 := of_decide_eq_true c1
    have c1' : i < m := by omega
    rw [Int.toNat_natCast, show 0 + i = i from Nat.zero_add i, wr_in (x := (i : Int) + 1) (by omega)]
    have hl := tRI_len (ft i)
    simp only [row0]
    rw [listW_me (tRI (ft i)), show listW (itW (row9 h)) n = listW h n from rfl]
    have no : hitB ft fc (listW h n) i = false → RoundV 19 0 lvBf (fun i => [.sl 0 2 0 0 m co, fnBf, .v (i64 m), .v (i64 (i : Nat))]) (fun _ => hpBf m' ft fc n h t1 t2 t3) (fun s' => s' = i + 1 ∧ i < m ∧ noneTo (hitB ft fc (listW h n)) (i + 1) = true) K Q .normal [.sl 0 2 0 0 m co, fnBf, .v (i64 m), .v (i64 ((i : Int) + 1))] (hpBf m' ft fc n h t1 t2 t3) := fun q =>
      ⟨i + 1, ⟨rfl, c1', noneTo_succ hi q⟩, rfl, Hsim.refl _⟩
    refine good_needs (by simp only [ob_cons, ob_nil, and_true, decide_eq_true_eq, Nat.ble_eq, allW_row, true_and]; omega) (good_cond (fun q1 => good_cond (fun q2 => good_cond (fun q3 => good_out (no ?_)) fun q3 => good_needs (by simp only [ob_cons, ob_nil, and_true, decide_eq_true_eq, Nat.ble_eq, allW_row, true_and]; omega) (good_cond (fun q4 => good_out ?_) fun q4 => good_out (no ?_))) fun q2 => good_out (no ?_)) fun q1 => good_out (no ?_))
    · rw [Bool.not_eq_true'] at q3
      rw [hitB, hitE, erB, q1, q2, q3]; rfl
    · rw [Bool.not_eq_false'] at q3
      have hh : hitB ft fc (listW h n) i = true := by rw [hitB, hitE, erB, q1, q2, q3, q4]; rfl
      refine ⟨_, Hsim.refl _, ?_⟩
      rw [noneTo_no c1' hh, fstAt_at hi c1' hh] at hk
      exact hk
    · rw [hitB, hitE, q4, Bool.and_false]
    · rw [hitB, hitE, erB, q2]; simp
    · rw [hitB, hitE, erB, q1]; rfl
  · have c1 := of_decide_eq_false c1
    have : i = m := by omega
    subst this
    refine good_out ⟨_, Hsim.refl _, ?_⟩
    rw [if_pos rfl]
    rw [hi] at hk
    exact hk
theorem ok_ifE : SpecOk Tryz.prog 61 (specQ [] (FifE hitB)) := by
  refine specQ_ok gmBf_ok Tryz.func61 rfl fun avs H kr hF ho => ?_
  unfold FifE at hF
  split at hF
  · rename_i m m' g t1 n t2 n' h t3
    cases hF
    simp only [ob_cons, decide_eq_true_eq, Nat.ble_eq, Nat.beq_eq] at ho
    obtain ⟨h1, rfl, h3, h4, h5, h6, _⟩ := ho
    have e : Hsim [AB.row true m' 2 g t1, .cells [.own 2 n] t2, .row true n 9 h t3] (hpBf m' (itT g) (itC g) n (itW h) t1 t2 t3) := .cons (ABeq.row fun j hj => allE_get h3 j hj) (.cons (ABeq.refl _) (.cons (ABeq.row fun j hj => allW_get h4 j hj) .nil))
    have e' : Hsim (hpBf m' (itT g) (itC g) n (itW h) t1 t2 t3) [AB.row true m' 2 g t1, .cells [.own 2 n] t2, .row true n 9 h t3] := .cons (ABeq.row fun j hj => (allE_get h3 j hj).symm) (.cons (ABeq.refl _) (.cons (ABeq.row fun j hj => (allW_get h4 j hj).symm) .nil))
    refine ⟨hpBf m' (itT g) (itC g) n (itW h) t1 t2 t3, lamBfO none m m' (itT g) (itC g) n (itW h) t1 t2 t3 (hitB (itT g) (itC g) (listW (itW h) n)), 100, e, lam1 (by kernel_rfl) (sumBfO none m m' (itT g) (itC g) n (itW h) t1 t2 t3 h1 h5 h6), ?_⟩
    show GoodQ (execF Tryz.prog (gmBf yRI tRI ckV ckY aN aY) (lamBfO none m m' (itT g) (itC g) n (itW h) t1 t2 t3 (hitB (itT g) (itC g) (listW (itW h) n))) 100 fIFE [.own 0 m, fnBf] (hpBf m' (itT g) (itC g) n (itW h) t1 t2 t3) (packK 3)) _
    rw [treeBfO (_co := none)]
    refine good_needs (by simp only [ob_cons, ob_nil, and_true]; exact chk_of ⟨trivial, Hsim.refl _⟩) (good_cond (fun q => good_out ⟨?_, e'⟩) fun q => good_out ⟨rfl, e'⟩)
    rw [fstAt_no q]
  · rename_i m co m' g t1 n t2 n' h t3
    cases hF
    simp only [ob_cons, decide_eq_true_eq, Nat.ble_eq, Nat.beq_eq] at ho
    obtain ⟨h1, rfl, h3, h4, h5, h6, _⟩ := ho
    have e : Hsim [AB.row true m' 2 g t1, .cells [.own 2 n] t2, .row true n 9 h t3] (hpBf m' (itT g) (itC g) n (itW h) t1 t2 t3) := .cons (ABeq.row fun j hj => allE_get h3 j hj) (.cons (ABeq.refl _) (.cons (ABeq.row fun j hj => allW_get h4 j hj) .nil))
    have e' : Hsim (hpBf m' (itT g) (itC g) n (itW h) t1 t2 t3) [AB.row true m' 2 g t1, .cells [.own 2 n] t2, .row true n 9 h t3] := .cons (ABeq.row fun j hj => (allE_get h3 j hj).symm) (.cons (ABeq.refl _) (.cons (ABeq.row fun j hj => (allW_get h4 j hj).symm) .nil))
    refine ⟨hpBf m' (itT g) (itC g) n (itW h) t1 t2 t3, lamBfL co m m' (itT g) (itC g) n (itW h) t1 t2 t3 (hitB (itT g) (itC g) (listW (itW h) n)), 100, e, lam1 (by kernel_rfl) (sumBfL co m m' (itT g) (itC g) n (itW h) t1 t2 t3 h1 h5 h6), ?_⟩
    show GoodQ (execF Tryz.prog (gmBf yRI tRI ckV ckY aN aY) (lamBfL co m m' (itT g) (itC g) n (itW h) t1 t2 t3 (hitB (itT g) (itC g) (listW (itW h) n))) 100 fIFE [.sl 0 2 0 0 m co, fnBf] (hpBf m' (itT g) (itC g) n (itW h) t1 t2 t3) (packK 3)) _
    rw [treeBfL]
    refine good_needs (by simp only [ob_cons, ob_nil, and_true]; exact chk_of ⟨trivial, Hsim.refl _⟩) (good_cond (fun q => good_out ⟨?_, e'⟩) fun q => good_out ⟨rfl, e'⟩)
    rw [fstAt_no q]
  · cases hF
theorem gmBF_ok : GamOk Tryz.prog (gmBF hitB) := ext_ok g0_ok ok_ifE
theorem ok_bfI : SpecOk Tryz.prog 31 (specQ [] (FbfO hitB)) := by
  refine specQ_ok gmBF_ok Tryz.func31 rfl fun avs H kr hF ho => ?_
  unfold FbfO at hF
  split at hF
  · rename_i m n m' g t1 n' h t3
    cases hF
    simp only [ob_cons, decide_eq_true_eq, Nat.ble_eq, Nat.beq_eq] at ho
    obtain ⟨h1, rfl, h3, h4, h5, h6, _⟩ := ho
    have e : Hsim [AB.row true m' 2 g t1, .row true n 9 h t3] (hpBw m' (itT g) (itC g) n (itW h) t1 t3) := .cons (ABeq.row fun j hj => allE_get h3 j hj) (.cons (ABeq.row fun j hj => allW_get h4 j hj) .nil)
    have e' : Hsim (hpBw m' (itT g) (itC g) n (itW h) t1 t3) [AB.row true m' 2 g t1, .row true n 9 h t3] := .cons (ABeq.row fun j hj => (allE_get h3 j hj).symm) (.cons (ABeq.row fun j hj => (allW_get h4 j hj).symm) .nil)
    refine ⟨hpBw m' (itT g) (itC g) n (itW h) t1 t3, noLam, 100, e, noLam' _, ?_⟩
    show GoodQ (execF Tryz.prog (gmBF hitB) noLam 100 Tryz.f31 [.own 0 m, .own 1 n] (hpBw m' (itT g) (itC g) n (itW h) t1 t3) (packK 2)) _
    rw [treeBFO (_co := none)]
    refine good_needs (by simp only [ob_cons, ob_nil, and_true, Nat.ble_eq, Nat.beq_eq, decide_eq_true_eq, allE_row, allW_row, true_and]; exact ⟨h1, h5, h6⟩) (good_out ⟨rfl, e'⟩)
  · rename_i m co n m' g t1 n' h t3
    cases hF
    simp only [ob_cons, decide_eq_true_eq, Nat.ble_eq, Nat.beq_eq] at ho
    obtain ⟨h1, rfl, h3, h4, h5, h6, _⟩ := ho
    have e : Hsim [AB.row true m' 2 g t1, .row true n 9 h t3] (hpBw m' (itT g) (itC g) n (itW h) t1 t3) := .cons (ABeq.row fun j hj => allE_get h3 j hj) (.cons (ABeq.row fun j hj => allW_get h4 j hj) .nil)
    have e' : Hsim (hpBw m' (itT g) (itC g) n (itW h) t1 t3) [AB.row true m' 2 g t1, .row true n 9 h t3] := .cons (ABeq.row fun j hj => (allE_get h3 j hj).symm) (.cons (ABeq.row fun j hj => (allW_get h4 j hj).symm) .nil)
    refine ⟨hpBw m' (itT g) (itC g) n (itW h) t1 t3, noLam, 100, e, noLam' _, ?_⟩
    show GoodQ (execF Tryz.prog (gmBF hitB) noLam 100 Tryz.f31 [.sl 0 2 0 0 m co, .own 1 n] (hpBw m' (itT g) (itC g) n (itW h) t1 t3) (packK 2)) _
    rw [treeBFL]
    refine good_needs (by simp only [ob_cons, ob_nil, and_true, Nat.ble_eq, Nat.beq_eq, decide_eq_true_eq, allE_row, allW_row, true_and]; exact ⟨h1, h5, h6⟩) (good_out ⟨rfl, e'⟩)
  · cases hF
theorem gmBs_ok : GamOk Tryz.prog (gmBs erB yRI tRI aN aY) := by
  have e1 : yRS = yRI := funext fun s => (re_rs s).1
  have e2 : tRS = tRI := funext fun s => (re_rs s).2
  have := ok_reS
  rw [e1, e2] at this
  exact ext_ok (ext_ok (ext_ok g0_ok ok_erS) this) ok_akS
theorem sumBsO (_co : Option Nat) (m m' : Nat) (ft : Nat → ByteArray) (fc : Nat → Int) (n : Nat) (h : Nat → Nat → Int) (t1 t3 : TypeId) (hmm : m ≤ m') (hm : m ≤ 2 ^ 38) (hn : n ≤ 2 ^ 38) :
    SumOk Tryz.prog 2 (.block 0 (.loop (loopAt 0 Tryz.f29))) (atS 39 (lvBs .normal) 2 [.own 0 m, .own 1 n, .v (i64 (0 : Nat))] (hpBw m' ft fc n h t1 t3) (fun K => cond (noneTo (hitB ft fc (listW h n)) m) (K .normal (mkT 0 39 []) (hpBw m' ft fc n h t1 t3)) (K .ret (mkT 0 39 [(4, .v (i64 (fstAt (hitB ft fc (listW h n)) m)))]) (hpBw m' ft fc n h t1 t3)))) := by
  refine for_at gmBs_ok (n := 100) (m := 2) (lv := lvBs) (fun i => [.own 0 m, .own 1 n, .v (i64 (i : Nat))]) (fun _ => hpBw m' ft fc n h t1 t3) (fun i => noneTo (hitB ft fc (listW h n)) i = true) m (fun _ => noLam) (lv3_ris rfl rfl rfl) (Nat.le_refl _) rfl fun K Q hk i hi him => ⟨noLam_ok _ _ _, ?_⟩
  rw [rndBsO (_co := none)]
  refine good_cond (fun c1 => ?_) fun c1 => ?_
  · have c1 := of_decide_eq_true c1
    have c1' : i < m := by omega
    rw [Int.toNat_natCast, wr_in (x := (i : Int) + 1) (by omega)]
    have hl := tRI_len (ft i)
    rw [listW_me (tRI (ft i)), show listW (itW (row9 h)) n = listW h n from rfl]
    have no : hitB ft fc (listW h n) i = false → RoundV 39 0 lvBs (fun i => [.own 0 m, .own 1 n, .v (i64 (i : Nat))]) (fun _ => hpBw m' ft fc n h t1 t3) (fun s' => s' = i + 1 ∧ i < m ∧ noneTo (hitB ft fc (listW h n)) (i + 1) = true) K Q .normal [.own 0 m, .own 1 n, .v (i64 ((i : Int) + 1))] (hpBw m' ft fc n h t1 t3) := fun q =>
      ⟨i + 1, ⟨rfl, c1', noneTo_succ hi q⟩, rfl, Hsim.refl _⟩
    refine good_needs (by simp only [ob_cons, ob_nil, and_true, decide_eq_true_eq]; omega) (good_cond (fun q1 => good_out (no ?_)) fun q1 => good_needs (by simp only [ob_cons, ob_nil, and_true, decide_eq_true_eq, Nat.ble_eq, allW_row, true_and]; omega) (good_cond (fun q4 => good_out ?_) fun q4 => good_out (no ?_)))
    · rw [Bool.not_eq_true'] at q1
      rw [hitB, hitE, q1]; rfl
    · rw [Bool.not_eq_false'] at q1
      have hh : hitB ft fc (listW h n) i = true := by rw [hitB, hitE, q1, q4]; rfl
      refine ⟨_, Hsim.refl _, ?_⟩
      rw [noneTo_no c1' hh, fstAt_at hi c1' hh] at hk
      exact hk
    · rw [hitB, hitE, q4, Bool.and_false]
  · have c1 := of_decide_eq_false c1
    have : i = m := by omega
    subst this
    refine good_out ⟨_, Hsim.refl _, ?_⟩
    rw [if_pos rfl]
    rw [hi] at hk
    exact hk
theorem sumBsL (co : Option Nat) (m m' : Nat) (ft : Nat → ByteArray) (fc : Nat → Int) (n : Nat) (h : Nat → Nat → Int) (t1 t3 : TypeId) (hmm : m ≤ m') (hm : m ≤ 2 ^ 38) (hn : n ≤ 2 ^ 38) :
    SumOk Tryz.prog 2 (.block 0 (.loop (loopAt 0 Tryz.f29))) (atS 39 (lvBs .normal) 2 [.sl 0 2 0 0 m co, .own 1 n, .v (i64 (0 : Nat))] (hpBw m' ft fc n h t1 t3) (fun K => cond (noneTo (hitB ft fc (listW h n)) m) (K .normal (mkT 0 39 []) (hpBw m' ft fc n h t1 t3)) (K .ret (mkT 0 39 [(4, .v (i64 (fstAt (hitB ft fc (listW h n)) m)))]) (hpBw m' ft fc n h t1 t3)))) := by
  refine for_at gmBs_ok (n := 100) (m := 2) (lv := lvBs) (fun i => [.sl 0 2 0 0 m co, .own 1 n, .v (i64 (i : Nat))]) (fun _ => hpBw m' ft fc n h t1 t3) (fun i => noneTo (hitB ft fc (listW h n)) i = true) m (fun _ => noLam) (lv3_ris rfl rfl rfl) (Nat.le_refl _) rfl fun K Q hk i hi him => ⟨noLam_ok _ _ _, ?_⟩
  rw [rndBsL]
  refine good_cond (fun c1 => ?_) fun c1 => ?_
  · have c1 := of_decide_eq_true c1
    have c1' : i < m := by omega
    rw [Int.toNat_natCast, show 0 + i = i from Nat.zero_add i, wr_in (x := (i : Int) + 1) (by omega)]
    have hl := tRI_len (ft i)
    rw [listW_me (tRI (ft i)), show listW (itW (row9 h)) n = listW h n from rfl]
    have no : hitB ft fc (listW h n) i = false → RoundV 39 0 lvBs (fun i => [.sl 0 2 0 0 m co, .own 1 n, .v (i64 (i : Nat))]) (fun _ => hpBw m' ft fc n h t1 t3) (fun s' => s' = i + 1 ∧ i < m ∧ noneTo (hitB ft fc (listW h n)) (i + 1) = true) K Q .normal [.sl 0 2 0 0 m co, .own 1 n, .v (i64 ((i : Int) + 1))] (hpBw m' ft fc n h t1 t3) := fun q =>
      ⟨i + 1, ⟨rfl, c1', noneTo_succ hi q⟩, rfl, Hsim.refl _⟩
    refine good_needs (by simp only [ob_cons, ob_nil, and_true, decide_eq_true_eq]; omega) (good_cond (fun q1 => good_out (no ?_)) fun q1 => good_needs (by simp only [ob_cons, ob_nil, and_true, decide_eq_true_eq, Nat.ble_eq, allW_row, true_and]; omega) (good_cond (fun q4 => good_out ?_) fun q4 => good_out (no ?_)))
    · rw [Bool.not_eq_true'] at q1
      rw [hitB, hitE, q1]; rfl
    · rw [Bool.not_eq_false'] at q1
      have hh : hitB ft fc (listW h n) i = true := by rw [hitB, hitE, q1, q4]; rfl
      refine ⟨_, Hsim.refl _, ?_⟩
      rw [noneTo_no c1' hh, fstAt_at hi c1' hh] at hk
      exact hk
    · rw [hitB, hitE, q4, Bool.and_false]
  · have c1 := of_decide_eq_false c1
    have : i = m := by omega
    subst this
    refine good_out ⟨_, Hsim.refl _, ?_⟩
    rw [if_pos rfl]
    rw [hi] at hk
    exact hk
theorem ok_bfS : SpecOk Tryz.prog 29 (specQ [] (FbfO hitB)) := by
  refine specQ_ok gmBs_ok Tryz.func29 rfl fun avs H kr hF ho => ?_
  unfold FbfO at hF
  split at hF
  · rename_i m n m' g t1 n' h t3
    cases hF
    simp only [ob_cons, decide_eq_true_eq, Nat.ble_eq, Nat.beq_eq] at ho
    obtain ⟨h1, rfl, h3, h4, h5, h6, _⟩ := ho
    have e : Hsim [AB.row true m' 2 g t1, .row true n 9 h t3] (hpBw m' (itT g) (itC g) n (itW h) t1 t3) := .cons (ABeq.row fun j hj => allE_get h3 j hj) (.cons (ABeq.row fun j hj => allW_get h4 j hj) .nil)
    have e' : Hsim (hpBw m' (itT g) (itC g) n (itW h) t1 t3) [AB.row true m' 2 g t1, .row true n 9 h t3] := .cons (ABeq.row fun j hj => (allE_get h3 j hj).symm) (.cons (ABeq.row fun j hj => (allW_get h4 j hj).symm) .nil)
    refine ⟨hpBw m' (itT g) (itC g) n (itW h) t1 t3, lamBsO none m m' (itT g) (itC g) n (itW h) t1 t3 (hitB (itT g) (itC g) (listW (itW h) n)), 100, e, lam1 (by kernel_rfl) (sumBsO none m m' (itT g) (itC g) n (itW h) t1 t3 h1 h5 h6), ?_⟩
    show GoodQ (execF Tryz.prog (gmBs erB yRI tRI aN aY) (lamBsO none m m' (itT g) (itC g) n (itW h) t1 t3 (hitB (itT g) (itC g) (listW (itW h) n))) 100 Tryz.f29 [.own 0 m, .own 1 n] (hpBw m' (itT g) (itC g) n (itW h) t1 t3) (packK 2)) _
    rw [treeBsO (_co := none)]
    refine good_needs (by simp only [ob_cons, ob_nil, and_true]; exact chk_of ⟨trivial, Hsim.refl _⟩) (good_cond (fun q => good_out ⟨?_, e'⟩) fun q => good_out ⟨rfl, e'⟩)
    rw [fstAt_no q]
  · rename_i m co n m' g t1 n' h t3
    cases hF
    simp only [ob_cons, decide_eq_true_eq, Nat.ble_eq, Nat.beq_eq] at ho
    obtain ⟨h1, rfl, h3, h4, h5, h6, _⟩ := ho
    have e : Hsim [AB.row true m' 2 g t1, .row true n 9 h t3] (hpBw m' (itT g) (itC g) n (itW h) t1 t3) := .cons (ABeq.row fun j hj => allE_get h3 j hj) (.cons (ABeq.row fun j hj => allW_get h4 j hj) .nil)
    have e' : Hsim (hpBw m' (itT g) (itC g) n (itW h) t1 t3) [AB.row true m' 2 g t1, .row true n 9 h t3] := .cons (ABeq.row fun j hj => (allE_get h3 j hj).symm) (.cons (ABeq.row fun j hj => (allW_get h4 j hj).symm) .nil)
    refine ⟨hpBw m' (itT g) (itC g) n (itW h) t1 t3, lamBsL co m m' (itT g) (itC g) n (itW h) t1 t3 (hitB (itT g) (itC g) (listW (itW h) n)), 100, e, lam1 (by kernel_rfl) (sumBsL co m m' (itT g) (itC g) n (itW h) t1 t3 h1 h5 h6), ?_⟩
    show GoodQ (execF Tryz.prog (gmBs erB yRI tRI aN aY) (lamBsL co m m' (itT g) (itC g) n (itW h) t1 t3 (hitB (itT g) (itC g) (listW (itW h) n))) 100 Tryz.f29 [.sl 0 2 0 0 m co, .own 1 n] (hpBw m' (itT g) (itC g) n (itW h) t1 t3) (packK 2)) _
    rw [treeBsL]
    refine good_needs (by simp only [ob_cons, ob_nil, and_true]; exact chk_of ⟨trivial, Hsim.refl _⟩) (good_cond (fun q => good_out ⟨?_, e'⟩) fun q => good_out ⟨rfl, e'⟩)
    rw [fstAt_no q]
  · cases hF
end Go.Proofs.YtcadinbahmliiaaGreatDoor

/- pick, where there are no bytes; the lengths of rows. No conditions. -/
namespace Go.Proofs.YtcadinbahmliiaaGreatDoor
open Go.RowKit
set_option maxRecDepth 100000

end Go.Proofs.YtcadinbahmliiaaGreatDoor

/- What is drawn: entries and a design: trees. Conditions: bytes. -/
namespace Go.Proofs.YtcadinbahmliiaaGreatDoor
open Go.RowKit
set_option maxRecDepth 100000

end Go.Proofs.YtcadinbahmliiaaGreatDoor

/- The laws' helpers on lists of wheels: trees. Conditions: a list of wheels. -/
namespace Go.Proofs.YtcadinbahmliiaaGreatDoor
open Go.RowKit
set_option maxRecDepth 100000

abbrev lvTW : Ex → List Nat := lv3 [0, 3, 4] [3] [2]
abbrev hpTW (m : Nat) (f : Nat → Nat → Int) (t : TypeId) (h : Nat → Nat → Int) : List AB := [.row false m 9 (row9 f) t, .row true m 9 (row9 h) 75]
theorem rndTW_h (m : Nat) (f : Nat → Nat → Int) (t : TypeId) (h : Nat → Nat → Int) (i : Nat) (u2 : _) (hu2 : (↑i : Int) = u2) (u3 : _) (hu3 : (0 : Nat) = u3) (u0 : _) (hu0 : (u3 + Int.toNat u2) = u0) (u1 : _) (hu1 : (Int.toNat u2) = u1) : execC Tryz.prog g0 100 noLam (loopAt 0 Tryz.f30) (mkT 0 23 ((lvTW .normal).zip [.sl 0 9 0 0 m none, .own 1 m, .v (i64 i)])) (hpTW m f t h) (leafV 23 lvTW 1)
    = bif decide (u2 < (m : Int)) then needs [decide (u2 < (m : Int)), decide (u3 + Int.toNat u2 < m), decide (u2 < (m : Int)), decide (Int.toNat u2 < m)] (Res.out .normal [AV.sl u3 (9 : Nat) u3 u3 m none, AV.own 1 m, AV.v (.int .i64 (IntKind.wrap .i64 (u2 + (1 : Int))))] [AB.row false m 9 (row9 f) t, AB.row true m 9 (fun q ↦ [Value.int .i64 (bif Nat.beq q u1 then f u0 u3 else h q u3), Value.int .i64 (bif Nat.beq q u1 then f u0 (1 : Nat) else h q (1 : Nat)), Value.int .i64 (bif Nat.beq q u1 then f u0 (2 : Nat) else h q (2 : Nat)), Value.int .i64 (bif Nat.beq q u1 then f u0 (3 : Nat) else h q (3 : Nat)), Value.int .i64 (bif Nat.beq q u1 then f u0 (4 : Nat) else h q (4 : Nat)), Value.int .i64 (bif Nat.beq q u1 then f u0 (5 : Nat) else h q (5 : Nat)), Value.int .i64 (bif Nat.beq q u1 then f u0 (6 : Nat) else h q (6 : Nat)), Value.int .i64 (bif Nat.beq q u1 then f u0 (7 : Nat) else h q (7 : Nat)), Value.int .i64 (bif Nat.beq q u1 then f u0 (8 : Nat) else h q (8 : Nat))]) 75]) else Res.out (Ex.exit u3) [AV.own 1 m] [AB.row false m 9 (row9 f) t, AB.row true m 9 (row9 h) 75] := by
  subst hu1 hu0 hu3 hu2
  kernel_rfl
theorem rndTW (m : Nat) (f : Nat → Nat → Int) (t : TypeId) (h : Nat → Nat → Int) (i : Nat) : type_of% (rndTW_h m f t h i _ rfl _ rfl _ rfl _ rfl) := rndTW_h m f t h i _ rfl _ rfl _ rfl _ rfl

noncomputable abbrev lamTW (m : Nat) (f : Nat → Nat → Int) (t : TypeId) : Nat → Option Sum := oneL 0 (atS 23 (lvTW .normal) 1 [.sl 0 9 0 0 m none, .own 1 m, .v (i64 (0 : Nat))] (hpTW m f t (fun j k => bif Nat.blt j 0 then f j k else 0)) (fun K => K .normal (mkT 0 23 [(3, .own 1 m)]) (hpTW m f t f)))
theorem treeTW_h (m : Nat) (f : Nat → Nat → Int) (t : TypeId) (u0 : _) (hu0 : (Value.int .i64 0) = u0) (u1 : _) (hu1 : (AV.sl 0 (9 : Nat) (0 : Nat) (0 : Nat) m none) = u1) : execF Tryz.prog g0 (lamTW m f t) 100 Tryz.f30 [.sl 0 9 0 0 m none] [.row false m 9 (row9 f) t] (packK 1)
    = needs [decide ((m : Int) ≤ (m : Int)), decide ((m : Int) ≤ (1099511627776 : Int)), chk ([u1, AV.own 1 (Int.toNat (m : Int)), AV.v (.int .i64 0)] = [u1, AV.own 1 m, AV.v (.int .i64 0)] ∧ Hsim [AB.row false m 9 (row9 f) t, AB.row true (Int.toNat (m : Int)) (9 : Nat) (fun _ ↦ [u0, u0, u0, u0, u0, u0, u0, u0, u0]) (75 : Nat)] (hpTW m f t fun j k ↦ bif Nat.blt j (0 : Nat) then f j k else (0 : Int)))] (Res.out .ret [AV.own 1 m] [AB.row false m 9 (row9 f) t, AB.row true m 9 (row9 f) 75]) := by
  subst hu1 hu0
  kernel_rfl
theorem treeTW (m : Nat) (f : Nat → Nat → Int) (t : TypeId) : type_of% (treeTW_h m f t _ rfl _ rfl) := treeTW_h m f t _ rfl _ rfl

theorem treeQW_h (a b : Nat → Int) (u0 : _) (hu0 : [AV.v (.bool false)] = u0) : execF Tryz.prog g0 noLam 100 Tryz.f63 ([Value.agg ⟨[i64 (a 0), i64 (a 1), i64 (a 2), i64 (a 3), i64 (a 4), i64 (a 5), i64 (a 6), i64 (a 7), i64 (a 8)]⟩, Value.agg ⟨[i64 (b 0), i64 (b 1), i64 (b 2), i64 (b 3), i64 (b 4), i64 (b 5), i64 (b 6), i64 (b 7), i64 (b 8)]⟩].map .v) [] valK
    = bif a (0 : Nat) != b (0 : Nat) then Res.out .ret u0 [] else bif a (1 : Nat) != b (1 : Nat) then Res.out .ret u0 [] else bif a (2 : Nat) != b (2 : Nat) then Res.out .ret u0 [] else bif a (3 : Nat) != b (3 : Nat) then Res.out .ret u0 [] else bif a (4 : Nat) != b (4 : Nat) then Res.out .ret u0 [] else bif a (5 : Nat) != b (5 : Nat) then Res.out .ret u0 [] else bif a (6 : Nat) != b (6 : Nat) then Res.out .ret u0 [] else bif a (7 : Nat) != b (7 : Nat) then Res.out .ret u0 [] else bif a (8 : Nat) != b (8 : Nat) then Res.out .ret u0 [] else Res.out .ret [AV.v (.bool true)] [] := by
  subst hu0
  kernel_rfl
theorem treeQW (a b : Nat → Int) : type_of% (treeQW_h a b _ rfl) := treeQW_h a b _ rfl

def f_eqW : List Value → Option (Value × List Bool)
  | [.agg ⟨[.int .i64 a0, .int .i64 a1, .int .i64 a2, .int .i64 a3, .int .i64 a4, .int .i64 a5, .int .i64 a6, .int .i64 a7, .int .i64 a8]⟩, .agg ⟨[.int .i64 b0, .int .i64 b1, .int .i64 b2, .int .i64 b3, .int .i64 b4, .int .i64 b5, .int .i64 b6, .int .i64 b7, .int .i64 b8]⟩] => some (.bool true, [decide (a0 = b0), decide (a1 = b1), decide (a2 = b2), decide (a3 = b3), decide (a4 = b4), decide (a5 = b5), decide (a6 = b6), decide (a7 = b7), decide (a8 = b8)])
  | _ => none
def gmQ : Gam := ext g0 63 (specV f_eqW)
abbrev lvQW : Ex → List Nat := lv3 [0, 1, 5] [] [4]
theorem rndQW_h (m : Nat) (f h : Nat → Nat → Int) (i : Nat) (u1 : _) (hu1 : [AB.row false m 9 (row9 f) 75, AB.row false m 9 (row9 h) 75] = u1) (u2 : _) (hu2 : (0 : Nat) = u2) (u3 : _) (hu3 : (↑i : Int) = u3) (u0 : _) (hu0 : (u2 + Int.toNat u3) = u0) : execC Tryz.prog gmQ 100 noLam (loopAt 0 Tryz.f32) (mkT 0 27 ((lvQW .normal).zip [.sl 0 9 0 0 m none, .sl 1 9 0 0 m none, .v (i64 i)])) (hpQW m f h) (leafV 27 lvQW 2)
    = bif decide (u3 < (m : Int)) then needs [decide (u3 < (m : Int)), decide (u2 + Int.toNat u3 < m), decide (u3 < (m : Int)), decide (u2 + Int.toNat u3 < m), decide (f u0 u2 = h u0 u2), decide (f u0 (1 : Nat) = h u0 (1 : Nat)), decide (f u0 (2 : Nat) = h u0 (2 : Nat)), decide (f u0 (3 : Nat) = h u0 (3 : Nat)), decide (f u0 (4 : Nat) = h u0 (4 : Nat)), decide (f u0 (5 : Nat) = h u0 (5 : Nat)), decide (f u0 (6 : Nat) = h u0 (6 : Nat)), decide (f u0 (7 : Nat) = h u0 (7 : Nat)), decide (f u0 (8 : Nat) = h u0 (8 : Nat))] (Res.out .normal [AV.sl u2 (9 : Nat) u2 u2 m none, AV.sl 1 (9 : Nat) u2 u2 m none, AV.v (.int .i64 (IntKind.wrap .i64 (u3 + (1 : Int))))] u1) else Res.out (Ex.exit u2) [] u1 := by
  subst hu0 hu3 hu2 hu1
  kernel_rfl
theorem rndQW (m : Nat) (f h : Nat → Nat → Int) (i : Nat) : type_of% (rndQW_h m f h i _ rfl _ rfl _ rfl _ rfl) := rndQW_h m f h i _ rfl _ rfl _ rfl _ rfl

noncomputable abbrev lamQW (m : Nat) (f h : Nat → Nat → Int) : Nat → Option Sum := oneL 0 (atS 27 (lvQW .normal) 2 [.sl 0 9 0 0 m none, .sl 1 9 0 0 m none, .v (i64 (0 : Nat))] (hpQW m f h) (fun K => K .normal (mkT 0 27 []) (hpQW m f h)))
theorem treeQS_h (m : Nat) (f h : Nat → Nat → Int) (u0 : _) (hu0 : [AB.row false m 9 (row9 f) 75, AB.row false m 9 (row9 h) 75] = u0) (u1 : _) (hu1 : [AV.sl 0 (9 : Nat) (0 : Nat) (0 : Nat) m none, AV.sl 1 (9 : Nat) (0 : Nat) (0 : Nat) m none, AV.v (.int .i64 0)] = u1) : execF Tryz.prog g0 (lamQW m f h) 100 Tryz.f32 [.sl 0 9 0 0 m none, .sl 1 9 0 0 m none] (hpQW m f h) (packK 2)
    = bif (m : Int) != (m : Int) then Res.out .ret [AV.v (.bool false)] u0 else needs [chk (u1 = u1 ∧ Hsim u0 (hpQW m f h))] (Res.out .ret [AV.v (.bool true)] u0) := by
  subst hu1 hu0
  kernel_rfl
theorem treeQS (m : Nat) (f h : Nat → Nat → Int) : type_of% (treeQS_h m f h _ rfl _ rfl) := treeQS_h m f h _ rfl _ rfl

end Go.Proofs.YtcadinbahmliiaaGreatDoor
