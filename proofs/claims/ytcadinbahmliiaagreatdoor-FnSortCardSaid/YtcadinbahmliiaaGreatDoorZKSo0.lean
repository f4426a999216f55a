/- FnSort where no entry is right: trees. Conditions: bytes. -/
import Derived.Test.YtcadinbahmliiaaGreatDoorZD0
import Derived.Test.YtcadinbahmliiaaGreatDoorZD1
import Derived.Test.YtcadinbahmliiaaGreatDoorZD2
import Derived.Test.YtcadinbahmliiaaGreatDoorZD3
import Derived.Test.YtcadinbahmliiaaGreatDoorZD4
import Derived.Test.YtcadinbahmliiaaGreatDoorZD5
import Derived.Test.YtcadinbahmliiaaGreatDoorZD6
import Derived.Test.YtcadinbahmliiaaGreatDoorZD7
import Derived.Test.YtcadinbahmliiaaGreatDoorZD8
import Derived.Test.YtcadinbahmliiaaGreatDoorZD9
import Derived.DeepKeys4
import Derived.Maps.Own
import Derived.Maps.Range
import Derived.RangeFuncSeq
import Derived.Shelf.AbstractIn
import Derived.RangeFuncStops
import Derived.Sort.MapsRangeIn
import Derived.WalkKit
import Derived.OwnWalkIn
import Derived.TacticsInMore
import Derived.RegionIn
import Derived.LoopNIn
import Derived.LoopIn
import Derived.Carry
/- The function that yields the pairs of turns: its word. Conditions: none. -/
namespace Go.Proofs.YtcadinbahmliiaaGreatDoor
open Go.RowKit
set_option maxRecDepth 100000

theorem TabOk.keep {w X : World} {M : Nat → Prop} (h : TabOk M w) (hk : keepR w M w X) : TabOk (fun k => X.heap.size ≤ k) X := fun x hx => by
  obtain ⟨h1, l, t, fz, h2, h3⟩ := h x hx
  have hlt := (Array.getElem?_eq_some_iff.1 h2).1
  exact ⟨fun hq => by have := hk.1; omega, l, t, fz, hk.2 x.1 _ hlt h1 h2, h3⟩
theorem keepR.refl (w : World) (M : Nat → Prop) : keepR w M w w := ⟨Nat.le_refl _, fun _ _ _ _ h => h⟩
end Go.Proofs.YtcadinbahmliiaaGreatDoor

/- The function that yields the pairs of turns: its word. Conditions: none. -/
namespace Go.Proofs.YtcadinbahmliiaaGreatDoor
open Go.RowKit
set_option maxRecDepth 100000

end Go.Proofs.YtcadinbahmliiaaGreatDoor

/- Products of designs: CycTimes of both, DesignTimes of both: trees. Conditions: two lists of wheels. -/
namespace Go.Proofs.YtcadinbahmliiaaGreatDoor
open Go.RowKit
set_option maxRecDepth 100000

end Go.Proofs.YtcadinbahmliiaaGreatDoor

/- Products of designs: CycTimes of both, DesignTimes of both. Conditions: two lists of wheels. -/
namespace Go.Proofs.YtcadinbahmliiaaGreatDoor
open Go.RowKit
set_option maxRecDepth 100000

end Go.Proofs.YtcadinbahmliiaaGreatDoor

/- DesignTimes of both. Conditions: two lists of wheels. -/
namespace Go.Proofs.YtcadinbahmliiaaGreatDoor
open Go.RowKit
set_option maxRecDepth 100000

end Go.Proofs.YtcadinbahmliiaaGreatDoor

/- impl.at, and the program's DesignAt: the reference's word. Conditions: a list of wheels. -/
namespace Go.Proofs.YtcadinbahmliiaaGreatDoor
open Go.RowKit
set_option maxRecDepth 100000

end Go.Proofs.YtcadinbahmliiaaGreatDoor

/- DesignAt of the program; DesignClosed of both: the whole. Conditions: a list of wheels. -/
namespace Go.Proofs.YtcadinbahmliiaaGreatDoor
open Go.RowKit
set_option maxRecDepth 100000

end Go.Proofs.YtcadinbahmliiaaGreatDoor

/- Lists of wheels compared: slices.Equal, l5Equal. Conditions: two lists of wheels. -/
namespace Go.Proofs.YtcadinbahmliiaaGreatDoor
open Go.RowKit
set_option maxRecDepth 100000

end Go.Proofs.YtcadinbahmliiaaGreatDoor

/- DesignStill of both: trees. Conditions: a list of wheels. -/
namespace Go.Proofs.YtcadinbahmliiaaGreatDoor
open Go.RowKit
set_option maxRecDepth 100000

end Go.Proofs.YtcadinbahmliiaaGreatDoor

/- Lists compared; the program's turned designs read as the reference's. Conditions: lists of wheels. -/
namespace Go.Proofs.YtcadinbahmliiaaGreatDoor
open Go.RowKit
set_option maxRecDepth 100000

end Go.Proofs.YtcadinbahmliiaaGreatDoor

/- The program's DesignAkin: its trees. Conditions: two lists of wheels. -/
namespace Go.Proofs.YtcadinbahmliiaaGreatDoor
open Go.RowKit
set_option maxRecDepth 100000

end Go.Proofs.YtcadinbahmliiaaGreatDoor

/- DesignAkin of the reference: trees. Conditions: two lists of wheels. -/
namespace Go.Proofs.YtcadinbahmliiaaGreatDoor
open Go.RowKit
set_option maxRecDepth 100000

end Go.Proofs.YtcadinbahmliiaaGreatDoor

/- The program's CycMirror. Conditions: a point. -/
namespace Go.Proofs.YtcadinbahmliiaaGreatDoor
open Go.RowKit
set_option maxRecDepth 100000

end Go.Proofs.YtcadinbahmliiaaGreatDoor

/- 'changed', for DesignFaster: trees. Conditions: a list of wheels. -/
namespace Go.Proofs.YtcadinbahmliiaaGreatDoor
open Go.RowKit
set_option maxRecDepth 100000

end Go.Proofs.YtcadinbahmliiaaGreatDoor

/- 'changed', for DesignFaster: its words. Conditions: a list of wheels. -/
namespace Go.Proofs.YtcadinbahmliiaaGreatDoor
open Go.RowKit
set_option maxRecDepth 100000

end Go.Proofs.YtcadinbahmliiaaGreatDoor

/- The program's DesignFaster. Conditions: a list of wheels. -/
namespace Go.Proofs.YtcadinbahmliiaaGreatDoor
open Go.RowKit
set_option maxRecDepth 100000

end Go.Proofs.YtcadinbahmliiaaGreatDoor

/- The program's DesignFaster, as a list or none, read as one. Conditions: a list of wheels. -/
namespace Go.Proofs.YtcadinbahmliiaaGreatDoor
open Go.RowKit
set_option maxRecDepth 100000

end Go.Proofs.YtcadinbahmliiaaGreatDoor

/- Plain laws of designs: turned, later, back, mirrored, faster. No program, no conditions. -/
namespace Go.Proofs.YtcadinbahmliiaaGreatDoor
open Go.RowKit

end Go.Proofs.YtcadinbahmliiaaGreatDoor

/- Plain laws of designs: periods and folds. No program, no conditions. -/
namespace Go.Proofs.YtcadinbahmliiaaGreatDoor
open Go.RowKit

end Go.Proofs.YtcadinbahmliiaaGreatDoor

/- Plain laws of designs: a tidy list turned is turned wheel by wheel; akin designs. No program, no conditions. -/
namespace Go.Proofs.YtcadinbahmliiaaGreatDoor
open Go.RowKit

end Go.Proofs.YtcadinbahmliiaaGreatDoor

/- Two cases of a word, read as one; the program's DesignClosed. Conditions: a list of wheels. -/
namespace Go.Proofs.YtcadinbahmliiaaGreatDoor
open Go.RowKit
set_option maxRecDepth 100000

end Go.Proofs.YtcadinbahmliiaaGreatDoor

/- DesignAkin of both: their words. Conditions: two lists of wheels. -/
namespace Go.Proofs.YtcadinbahmliiaaGreatDoor
open Go.RowKit
set_option maxRecDepth 100000

end Go.Proofs.YtcadinbahmliiaaGreatDoor

/- The program's DesignAkin: its word. Conditions: two lists of wheels. -/
namespace Go.Proofs.YtcadinbahmliiaaGreatDoor
open Go.RowKit
set_option maxRecDepth 100000

end Go.Proofs.YtcadinbahmliiaaGreatDoor

/- DesignMirrored of both: their words. Conditions: a list of wheels. -/
namespace Go.Proofs.YtcadinbahmliiaaGreatDoor
open Go.RowKit
set_option maxRecDepth 100000

end Go.Proofs.YtcadinbahmliiaaGreatDoor

/- A callee that leaves what it reads as it was: its word, by its view, without a way back for its memory. No conditions. -/
namespace Go.Proofs.YtcadinbahmliiaaGreatDoor
open Go.RowKit

mutual
def posA : AV → Bool
  | .sl _ _ _ _ len _ => Nat.blt 0 len
  | .agg cs => posAs cs
  | .tup cs => posAs cs
  | .fn _ cs => posAs cs
  | _ => true
def posAs : List AV → Bool
  | [] => true
  | a :: al => posA a && posAs al
end
def posB : AB → Bool
  | .cells cs _ => posAs cs
  | _ => true
mutual
theorem VR.unren {keep : List Nat} {ν ν' : Nu} (h : ∀ j b, keepNu keep ν j = some b → ν' j = some b) : ∀ {a a' : AV} {x y : Value}, renA keep a = some a' → posA a = true → VR ν a x → VR ν' a' y → VR ν a y
  | .v _, a', _, _, hs, _, _, hv => by
    simp only [renA, Option.some.injEq] at hs
    subst hs
    simpa only [VR] using hv
  | .ptr .., a', _, _, hs, _, hx, hv => by
    simp only [renA, Option.map_eq_some_iff] at hs
    obtain ⟨q, hq, rfl⟩ := hs
    simp only [VR] at hx hv ⊢
    obtain ⟨b, h1, h2⟩ := hv
    obtain ⟨c, h3, _⟩ := hx
    have := h q c (by simp [keepNu, idxOf_get hq, h3])
    rw [h1, Option.some.injEq] at this
    subst this
    exact ⟨b, h3, h2⟩
  | .sl .., a', _, _, hs, hp, hx, hv => by
    simp only [renA, Option.map_eq_some_iff] at hs
    obtain ⟨q, hq, rfl⟩ := hs
    simp only [posA, Nat.blt_eq] at hp
    simp only [VR] at hx hv ⊢
    obtain ⟨p, c, h1, h2, h3, h4⟩ := hv
    obtain ⟨_, c0, _, _, g3, g4⟩ := hx
    refine ⟨p, c, h1, h2, h3, fun hc => ?_⟩
    obtain ⟨b, h5, h6⟩ := h4 hc
    obtain ⟨b0, g5, _⟩ := g4 (by omega)
    have := h q b0 (by simp [keepNu, idxOf_get hq, g5])
    rw [h5, Option.some.injEq] at this
    subst this
    exact ⟨b, g5, h6⟩
  | .own .., a', _, _, hs, _, hx, hv => by
    simp only [renA, Option.map_eq_some_iff] at hs
    obtain ⟨q, hq, rfl⟩ := hs
    simp only [VR] at hx hv ⊢
    obtain ⟨b, h1, h2⟩ := hv
    obtain ⟨c, h3, _⟩ := hx
    have := h q c (by simp [keepNu, idxOf_get hq, h3])
    rw [h1, Option.some.injEq] at this
    subst this
    exact ⟨b, h3, h2⟩
  | .agg _, a', _, _, hs, hp, hx, hv => by
    simp only [renA, Option.map_eq_some_iff] at hs
    obtain ⟨q, hq, rfl⟩ := hs
    simp only [posA] at hp
    simp only [VR] at hx hv ⊢
    obtain ⟨l, h1, h2⟩ := hv
    obtain ⟨l0, _, h3⟩ := hx
    exact ⟨l, h1, VRs.unren h hq hp h3 h2⟩
  | .tup _, a', _, _, hs, hp, hx, hv => by
    simp only [renA, Option.map_eq_some_iff] at hs
    obtain ⟨q, hq, rfl⟩ := hs
    simp only [posA] at hp
    simp only [VR] at hx hv ⊢
    obtain ⟨l, h1, h2⟩ := hv
    obtain ⟨l0, _, h3⟩ := hx
    exact ⟨l, h1, VRs.unren h hq hp h3 h2⟩
  | .fn _ _, a', _, _, hs, hp, hx, hv => by
    simp only [renA, Option.map_eq_some_iff] at hs
    obtain ⟨q, hq, rfl⟩ := hs
    simp only [posA] at hp
    simp only [VR] at hx hv ⊢
    obtain ⟨l, h1, h2⟩ := hv
    obtain ⟨l0, _, h3⟩ := hx
    exact ⟨l, h1, VRs.unren h hq hp h3 h2⟩
  | .err _, _, _, _, hs, _, _, hv => by
    simp only [renA, Option.some.injEq] at hs
    subst hs
    simpa only [VR] using hv
  | .dead, _, _, _, _, _, _, _ => by simp only [VR]
theorem VRs.unren {keep : List Nat} {ν ν' : Nu} (h : ∀ j b, keepNu keep ν j = some b → ν' j = some b) : ∀ {al al' : List AV} {xs ys : List Value}, renAs keep al = some al' → posAs al = true → VRs ν al xs → VRs ν' al' ys → VRs ν al ys
  | [], al', _, ys, hs, _, _, hv => by
    simp only [renAs, Option.some.injEq] at hs
    subst hs
    cases ys with
    | nil => simp only [VRs]
    | cons => simp only [VRs] at hv
  | a :: al, al', xs, ys, hs, hp, hx, hv => by
    simp only [renAs] at hs
    split at hs
    case h_2 => cases hs
    rename_i x xs' h1 h2
    cases hs
    cases ys with
    | nil => simp only [VRs] at hv
    | cons y ys =>
      cases xs with
      | nil => simp only [VRs] at hx
      | cons x0 xs =>
        simp only [VRs] at hx hv ⊢
        simp only [posAs, Bool.and_eq_true] at hp
        exact ⟨VR.unren h h1 hp.1 hx.1 hv.1, VRs.unren h h2 hp.2 hx.2 hv.2⟩
end

structure QRd where
  val : AV
  obl : List Bool := []
def specQ (ros : List Bool) (F : List AV → List AB → Option QRd) : Spec := fun avs H _ =>
  match viewH ros avs H with
  | some q => match F q.2.1 q.2.2 with
    | some kr => match mapA (fun _ => none) kr.val with
      | some v => some { val := v, rd := q.1, put := putH q.1 q.2.2 (q.1.map fun i => H.getD i .gone), new := [], obl := kr.obl ++ q.1.map fun i => posB (H.getD i .gone) }
      | none => none
    | none => none
  | none => none
def GivQ (kr : QRd) (H : List AB) : Ex → List AV → List AB → Prop := fun _ l He => l = [kr.val] ∧ Hsim He H
theorem specQ_calls {f : FuncId} {fn : Func} {ros : List Bool} {F : List AV → List AB → Option QRd} (hf : Tryz.prog.funcs[f]? = some fn) (hb : fn.body.isSome = true)
    (h : ∀ avs H kr, F avs H = some kr → obls kr.obl = true → ∃ H0 : List AB, Hsim H H0 ∧ ∀ (M : Nat → Prop) (vals : List Value) (w : World) (ν : Nu), (∀ k, w.heap.size ≤ k → M k) → VRs ν avs vals → RH M ν (fun b => H0.getD b .gone) w → (∀ i b, ν i = some b → i < H0.length) → Calls Tryz.prog f vals.toArray w (RetG (GivQ kr H) M ν w)) : SpecOk Tryz.prog f (specQ ros F) := by
  refine ⟨fun args w => enters f fn hf hb args w, fun avs H base δ ν vals w hS ho hv hbr hlt hfree hsep htab => ?_⟩
  unfold specQ at hS
  split at hS
  case h_2 => cases hS
  rename_i q hq
  split at hS
  case h_2 => cases hS
  rename_i hr hF
  split at hS
  case h_2 => cases hS
  rename_i v hval
  simp only [Option.some.injEq] at hS
  subst hS
  unfold viewH at hq
  generalize reach H 400 [] (idxAs avs) = keep at *
  split at hq
  case h_2 => cases hq
  rename_i avs' H1 hra hrb
  cases hnd : nodupB keep with
  | false => rw [hnd] at hq; cases hq
  | true =>
  rw [hnd] at hq
  simp only [cond_true, Option.some.injEq] at hq
  subst hq
  simp only at hval hF hbr hsep ho hfree ⊢
  have ho2 : obls hr.obl = true ∧ obls (keep.map fun i => posB (H.getD i .gone)) = true := by
    unfold obls at ho ⊢
    rw [List.all_append, Bool.and_eq_true] at ho
    exact ho
  obtain ⟨ho, hpos⟩ := ho2
  obtain ⟨hl1, hg1⟩ := renBs_get hrb
  have hlHc : (roL ros H1).length = keep.length := by rw [roL_length, hl1]
  have nuAt : ∀ {j i}, keep[j]? = some i → keepNu keep ν j = ν i := fun hj => by simp [keepNu, hj]
  have ofNu : ∀ {j b}, keepNu keep ν j = some b → ∃ i, keep[j]? = some i ∧ ν i = some b := by
    intro j b hb
    unfold keepNu at hb
    split at hb
    · rename_i i hi; exact ⟨i, hi, hb⟩
    · cases hb
  have ren_marks : ∀ {b b' : AB}, renB keep b = some b' → b'.wr = b.wr ∧ b'.live = b.live := by
    intro b b' hb
    cases b with
    | cells cs t => simp only [renB, Option.map_eq_some_iff] at hb; obtain ⟨q, _, rfl⟩ := hb; exact ⟨rfl, rfl⟩
    | row => simp only [renB, Option.some.injEq] at hb; subst hb; exact ⟨rfl, rfl⟩
    | gone => simp only [renB, Option.some.injEq] at hb; subst hb; exact ⟨rfl, rfl⟩
  -- the callee's block j is the caller's block keep j
  have view : ∀ {j i}, keep[j]? = some i → ∃ b1, H1[j]? = some b1 ∧ renB keep (H.getD i .gone) = some b1 ∧ (roL ros H1)[j]? = some (roB (ros.getD j false) b1) := by
    intro j i hj
    obtain ⟨b1, e1, e2⟩ := hg1 j i hj
    exact ⟨b1, e1, e2, by rw [roL_get, e1]; rfl⟩
  have wrOf : ∀ {j i}, keep[j]? = some i → ((roL ros H1).getD j .gone).wr = true → (H.getD i .gone).wr = true := by
    intro j i hj hw
    obtain ⟨b1, _, e2, e3⟩ := view hj
    have : (roL ros H1).getD j .gone = roB (ros.getD j false) b1 := by simp [List.getD_eq_getElem?_getD, e3]
    rw [this] at hw
    rw [← (ren_marks e2).1]
    exact roB_wr hw
  have liveOf : ∀ {j i}, keep[j]? = some i → ((roL ros H1).getD j .gone).live = true → (H.getD i .gone).live = true := by
    intro j i hj hw
    obtain ⟨b1, _, e2, e3⟩ := view hj
    have : (roL ros H1).getD j .gone = roB (ros.getD j false) b1 := by simp [List.getD_eq_getElem?_getD, e3]
    rw [this, roB_live] at hw
    rw [← (ren_marks e2).2]
    exact hw
  have roSame : ∀ {r : Bool} {b : AB}, (roB r b).wr = true → roB r b = b := by
    intro r b hw
    cases b with
    | cells => cases r <;> rfl
    | gone => cases r <;> rfl
    | row rw n wd g t => cases r <;> cases rw <;> first | rfl | cases hw
  have inPut : ∀ {j i}, keep[j]? = some i → ((roL ros H1).getD j .gone).wr = true → (i, H.getD i .gone) ∈ putH keep (roL ros H1) (keep.map fun i => H.getD i .gone) := by
    intro j i hj hw
    have hjl : j < keep.length := (List.getElem?_eq_some_iff.1 hj).1
    have hh : (roL ros H1)[j]? = some ((roL ros H1)[j]'(by omega)) := List.getElem?_eq_getElem _
    refine putH_of hj hh (by rw [List.getElem?_map, hj]; rfl) ?_
    have : (roL ros H1).getD j .gone = (roL ros H1)[j]'(by omega) := by simp [List.getD_eq_getElem?_getD, hh]
    rw [← this]; exact hw
  let M : Nat → Prop := fun k => w.heap.size ≤ k ∨ ∃ j b, ((roL ros H1).getD j .gone).wr = true ∧ keepNu keep ν j = some b ∧ b.n = k
  have hRH : RH M (keepNu keep ν) (fun b => (roL ros H1).getD b .gone) w := by
    refine ⟨fun j => ?_, fun i j b b' hne hw hlv hb hb' => ?_, fun i b hw hb => .inr ⟨i, b, hw, hb, rfl⟩, fun i b hb => ?_, htab.mono ?_⟩
    · cases hj : keep[j]? with
      | none =>
        have : (roL ros H1).getD j .gone = .gone := by
          rw [List.getD_eq_getElem?_getD, List.getElem?_eq_none]
          · rfl
          · rw [hlHc]
            exact List.getElem?_eq_none_iff.1 hj
        simp only [this]
        trivial
      | some i =>
        obtain ⟨b1, e1, e2, e3⟩ := view hj
        have : (roL ros H1).getD j .gone = roB (ros.getD j false) b1 := by simp [List.getD_eq_getElem?_getD, e3]
        simp only [this]
        refine roB_br ?_
        have hbi := hbr i (List.mem_of_getElem? hj)
        have hν := nuAt hj
        cases hi : H.getD i .gone with
        | cells cs t =>
          rw [hi] at e2 hbi
          simp only [renB, Option.map_eq_some_iff] at e2
          obtain ⟨cs', h1, h2⟩ := e2
          rw [← h2]
          obtain ⟨b, l, g1, g2, g3, g4⟩ := hbi
          exact ⟨b, l, by rw [hν]; exact g1, g2, g3, g4.ren h1⟩
        | row rw' n wd g t =>
          rw [hi] at e2 hbi
          simp only [renB, Option.some.injEq] at e2
          rw [← e2]
          rcases hbi with ⟨g1, g2, g3⟩ | ⟨b, l, t', fz, g1, g2⟩
          · exact .inl ⟨g1, g2, by rw [hν]; exact g3⟩
          · exact .inr ⟨b, l, t', fz, by rw [hν]; exact g1, g2⟩
        | gone =>
          rw [hi] at e2
          simp only [renB, Option.some.injEq] at e2
          rw [← e2]
          trivial
    · obtain ⟨i', hi, e1⟩ := ofNu hb
      obtain ⟨j', hj, e2⟩ := ofNu hb'
      have hp := inPut hi hw
      refine hsep i' _ j' b b' hp (List.mem_of_getElem? hj) (fun e => ?_) (liveOf hj hlv) e1 e2
      subst e
      exact hne (nodupB_ne hnd i j i' hi hj)
    · obtain ⟨i', _, e1⟩ := ofNu hb
      exact hlt i' b e1
    · rintro k _ (hk | ⟨j, b, hw, hb, rfl⟩)
      · exact .inl hk
      · obtain ⟨i', hi, e1⟩ := ofNu hb
        have hp := inPut hi hw
        exact .inr ⟨i', b, _, hp, e1, rfl⟩
  obtain ⟨H0, hsim, hcalls⟩ := h avs' (roL ros H1) hr hF ho
  have hl0 : H0.length = keep.length := by rw [← hsim.length, hlHc]
  have hdom0 : ∀ i b, keepNu keep ν i = some b → i < H0.length := by
    intro i b hb
    obtain ⟨i', hi, _⟩ := ofNu hb
    rw [hl0]
    exact (List.getElem?_eq_some_iff.1 hi).1
  refine (hcalls M _ w _ (fun k hk => Or.inl hk) (hv.ren hra) (hRH.sim hsim) hdom0).mono ?_
  rintro e w' ⟨vv, av, He, ν', rfl, ⟨hav, hHe⟩, hvr, hRH', hfr, hle, hdom'⟩
  simp only [List.cons.injEq, and_true] at hav
  subst hav
  have hRH2 := hRH'.sim hHe
  -- a block that may be written has a place
  have wrNu : ∀ {j : Nat}, ((roL ros H1).getD j .gone).wr = true → ∃ b, keepNu keep ν j = some b := by
    intro j hw
    have : BR (keepNu keep ν) j ((roL ros H1).getD j .gone) w := hRH.br j
    cases hb : (roL ros H1).getD j .gone with
    | cells cs t => rw [hb] at this; obtain ⟨b, l, e1, _⟩ := this; exact ⟨b, e1⟩
    | row rw' n wd g t =>
      rw [hb] at this hw
      rcases this with ⟨e1, _⟩ | ⟨b, l, t', fz, e1, _⟩
      · simp only [AB.wr] at hw
        rw [e1] at hw
        cases hw
      · exact ⟨b, e1⟩
    | gone => rw [hb] at hw; cases hw
  have mp : ∀ i i' b, (fun _ : Nat => (none : Option Nat)) i = some i' → ν' i = some b → ν i' = some b := fun i i' b h1 _ => by cases h1
  refine ⟨vv, ν, rfl, ⟨fun i b hb => hb, fun i h1 h2 => (h2 h1).elim, hvr.map mp hval, fun i b hl => ?_, fun j b hj => by simp at hj, hfr.os, hfr.tape, hfr.output, hfr.size, fun k hk hne => ?_, fun j b hj _ => absurd hj (Nat.not_lt_zero _), fun j j' b b' hne hj => absurd hj (Nat.not_lt_zero _)⟩⟩
  · obtain ⟨j, hh, e1, e2, e3, e4⟩ := putH_mem (lookB_mem hl)
    rw [List.getElem?_map, e1] at e3
    simp only [Option.map_some, Option.some.injEq] at e3
    subst e3
    obtain ⟨b1, _, v2, v3⟩ := view e1
    rw [e2, Option.some.injEq] at v3
    subst v3
    have hb1 := roSame e4
    rw [hb1] at e2
    have hout : BR ν' j b1 w' := by
      have := hRH2.br j
      simp only [List.getD_eq_getElem?_getD, e2, Option.getD_some] at this
      exact this
    have hin := hbr i (List.mem_of_getElem? e1)
    have hp : posB (H.getD i .gone) = true := by
      unfold obls at hpos
      rw [List.all_eq_true] at hpos
      exact hpos _ (List.mem_map.2 ⟨i, List.mem_of_getElem? e1, rfl⟩)
    rw [hb1] at e4
    have back : ∀ {b}, ν i = some b → ν' j = some b := fun hb => hle _ _ (by rw [nuAt e1]; exact hb)
    cases hi : H.getD i .gone with
    | cells cs t =>
      rw [hi] at v2 hin hp
      simp only [renB, Option.map_eq_some_iff] at v2
      obtain ⟨cs', h1, h2⟩ := v2
      rw [← h2] at hout
      obtain ⟨b, l, g1, g2, g3, g4⟩ := hin
      obtain ⟨b', l', f1, f2, f3, f4⟩ := hout
      have := back g1
      rw [f1, Option.some.injEq] at this
      subst this
      exact ⟨b', l', g1, f2, f3, VRs.unren hle h1 hp g4 f4⟩
    | row rw' n wd g t =>
      rw [hi] at v2 hin
      simp only [renB, Option.some.injEq] at v2
      rw [← v2] at hout e4
      simp only [AB.wr] at e4
      rcases hin with ⟨g1, _⟩ | ⟨b, l, t', fz, g1, _⟩
      · rw [g1] at e4; cases e4
      · rcases hout with ⟨f1, _⟩ | ⟨b', l', t2, fz2, f1, f2⟩
        · rw [f1] at e4; cases e4
        · have := back g1
          rw [f1, Option.some.injEq] at this
          subst this
          exact .inr ⟨b', l', t2, fz2, g1, f2⟩
    | gone =>
      rw [hi] at v2
      simp only [renB, Option.some.injEq] at v2
      rw [← v2] at e4
      cases e4
  · refine hfr.block k hk fun hM => ?_
    rcases hM with hM | ⟨j, b, hw, hb, e⟩
    · omega
    · obtain ⟨i, hi, e1⟩ := ofNu hb
      exact hne _ b (inPut hi hw) e1 e
end Go.Proofs.YtcadinbahmliiaaGreatDoor

/- Rows of entries; BookFind of both: trees. Conditions: entries, a list of wheels. -/
namespace Go.Proofs.YtcadinbahmliiaaGreatDoor
open Go.RowKit
set_option maxRecDepth 100000

abbrev rowE (ft : Nat → ByteArray) (fc : Nat → Int) : Nat → List Value := fun j => [.string (ft j), .int .u32 (fc j)]
def isE : List Value → Bool
  | [.string _, .int .u32 _] => true
  | _ => false
def stOf : Value → ByteArray
  | .string s => s
  | _ => ⟨#[]⟩
def u3Of : Value → Int
  | .int .u32 n => n
  | _ => 0
def itT (g : Nat → List Value) (j : Nat) : ByteArray := stOf ((g j).getD 0 undef)
def itC (g : Nat → List Value) (j : Nat) : Int := u3Of ((g j).getD 1 undef)
def allE (m : Nat) (g : Nat → List Value) : Bool := (List.range m).all fun j => isE (g j)
theorem allE_get {m : Nat} {g : Nat → List Value} (h : allE m g = true) (j : Nat) (hj : j < m) : g j = rowE (itT g) (itC g) j := by
  have := List.all_eq_true.1 h j (by simpa using hj)
  simp only [rowE, itT, itC]
  unfold isE at this
  split at this
  · rename_i e; rw [e]; rfl
  · cases this
theorem allE_of {m : Nat} {ft : Nat → ByteArray} {fc : Nat → Int} {g : Nat → List Value} (h : ∀ j, j < m → g j = rowE ft fc j) : allE m g = true := List.all_eq_true.2 fun j hj => by
  rw [h j (by simpa using hj)]; rfl
theorem allE_row (m : Nat) (ft : Nat → ByteArray) (fc : Nat → Int) : allE m (rowE ft fc) = true := allE_of (ft := ft) (fc := fc) fun _ _ => rfl
theorem itT_row (ft : Nat → ByteArray) (fc : Nat → Int) : itT (rowE ft fc) = ft := rfl
theorem itC_row (ft : Nat → ByteArray) (fc : Nat → Int) : itC (rowE ft fc) = fc := rfl

end Go.Proofs.YtcadinbahmliiaaGreatDoor

/- Entries in order; the reference's BookSort: trees. Conditions: entries. -/
namespace Go.Proofs.YtcadinbahmliiaaGreatDoor
open Go.RowKit
set_option maxRecDepth 100000

def lsB (s : ByteArray) (c : Int) (s2 : ByteArray) (c2 : Int) : Bool := bif c != c2 then decide (c < c2) else lessB s s2
theorem treeLs (s1 s2 : ByteArray) (c1 c2 : Int) : execF Tryz.prog g0 noLam 100 Tryz.f48 [.v (.agg ⟨[.string s1, .int .u32 c1]⟩), .v (.agg ⟨[.string s2, .int .u32 c2]⟩)] [] valK
    = bif c1 != c2 then Res.out .ret [AV.v (.bool (decide (c1 < c2)))] [] else Res.out .ret [AV.v (.bool (lessB s1 s2))] [] := by kernel_rfl

def FlsO (ls : ByteArray → Int → ByteArray → Int → Bool) : List Value → Option (Value × List Bool)
  | [.agg ⟨[.string s1, .int .u32 c1]⟩, .agg ⟨[.string s2, .int .u32 c2]⟩] => some (.bool (ls s1 c1 s2 c2), [])
  | _ => none
noncomputable abbrev fBS : Func := Tryz.f20
abbrev lvBS : Ex → List Nat := lv3 [0, 4, 5] [4] [2, 3]
abbrev lvBT : Ex → List Nat := lv3 [0, 4, 5, 6] [0, 4, 5, 6] [2, 3]
abbrev hpBS (m : Nat) (ft : Nat → ByteArray) (fc : Nat → Int) (t : TypeId) (n : Nat) (gt : Nat → ByteArray) (gc : Nat → Int) : List AB := [.row false m 2 (rowE ft fc) t, .row true n 2 (rowE gt gc) 27]
def gmBS (er : ByteArray → Int → Bool) (ls : ByteArray → Int → ByteArray → Int → Bool) : Gam := ext (ext g0 11 (specR [.val] (FerO er))) 48 (specV (FlsO ls))
theorem rndBT (er : ByteArray → Int → Bool) (ls : ByteArray → Int → ByteArray → Int → Bool) (m : Nat) (ft : Nat → ByteArray) (fc : Nat → Int) (t : TypeId) (n : Nat) (gt : Nat → ByteArray) (gc : Nat → Int) (i k : Nat) : execC Tryz.prog (gmBS er ls) 100 noLam (loopAt 2 fBS) (mkT 0 72 ((lvBT .normal).zip [.sl 0 2 0 0 m none, .own 1 n, .v (i64 i), .v (i64 k)])) (hpBS m ft fc t n gt gc) (leafV 72 lvBT 1)
    = bif decide ((↑k : Int) < (↑n : Int)) then needs [decide ((↑k : Int) < (↑n : Int)), decide (Int.toNat (↑k : Int) < n), decide ((↑i : Int) < (m : Int)), decide ((0 : Nat) + Int.toNat (↑i : Int) < m)] (bif ls (gt (Int.toNat (↑k : Int))) (gc (Int.toNat (↑k : Int))) (ft ((0 : Nat) + Int.toNat (↑i : Int))) (fc ((0 : Nat) + Int.toNat (↑i : Int))) then Res.out .normal [AV.sl 0 (2 : Nat) (0 : Nat) (0 : Nat) m none, AV.own 1 n, AV.v (.int .i64 (↑i : Int)), AV.v (.int .i64 (IntKind.wrap .i64 ((↑k : Int) + (1 : Int))))] [AB.row false m 2 (rowE ft fc) t, AB.row true n 2 (rowE gt gc) 27] else Res.out (Ex.exit (2 : Nat)) [AV.sl 0 (2 : Nat) (0 : Nat) (0 : Nat) m none, AV.own 1 n, AV.v (.int .i64 (↑i : Int)), AV.v (.int .i64 (↑k : Int))] [AB.row false m 2 (rowE ft fc) t, AB.row true n 2 (rowE gt gc) 27]) else Res.out (Ex.exit (2 : Nat)) [AV.sl 0 (2 : Nat) (0 : Nat) (0 : Nat) m none, AV.own 1 n, AV.v (.int .i64 (↑i : Int)), AV.v (.int .i64 (↑k : Int))] [AB.row false m 2 (rowE ft fc) t, AB.row true n 2 (rowE gt gc) 27] := by kernel_rfl

noncomputable abbrev lamBT (m : Nat) (ft : Nat → ByteArray) (fc : Nat → Int) (t : TypeId) (n : Nat) (gt : Nat → ByteArray) (gc : Nat → Int) (i k : Nat) : Nat → Option Sum := oneL 2 (atS 72 (lvBT .normal) 1 [.sl 0 2 0 0 m none, .own 1 n, .v (i64 i), .v (i64 (0 : Nat))] (hpBS m ft fc t n gt gc) (fun K => K .normal (mkT 0 72 [(0, .sl 0 2 0 0 m none), (4, .own 1 n), (5, .v (i64 i)), (6, .v (i64 k))]) (hpBS m ft fc t n gt gc)))
theorem rndBS_h (er : ByteArray → Int → Bool) (ls : ByteArray → Int → ByteArray → Int → Bool) (m : Nat) (ft : Nat → ByteArray) (fc : Nat → Int) (t : TypeId) (n : Nat) (gt : Nat → ByteArray) (gc : Nat → Int) (i k : Nat) (u3 : _) (hu3 : [AB.row false m 2 (rowE ft fc) t, AB.row true n 2 (rowE gt gc) 27] = u3) (u9 : _) (hu9 : (↑k : Int) = u9) (u11 : _) (hu11 : (↑n : Int) = u11) (u13 : _) (hu13 : (0 : Nat) = u13) (u15 : _) (hu15 : (↑i : Int) = u15) (u16 : _) (hu16 : (AV.own 1 n) = u16) (u2 : _) (hu2 : (u13 + Int.toNat (u9 - (0 : Int)) + (1 : Nat)) = u2) (u4 : _) (hu4 : (u13 + Int.toNat (u9 - (0 : Int))) = u4) (u5 : _) (hu5 : (u13 + Int.toNat (u9 - (0 : Int)) + (1 : Nat) + Int.toNat (u11 - u9)) = u5) (u6 : _) (hu6 : (AV.sl u13 (2 : Nat) u13 u13 m none) = u6) (u7 : _) (hu7 : (u13 + Int.toNat u15) = u7) (u8 : _) (hu8 : (AV.v (.int .i64 (IntKind.wrap .i64 (u15 + (1 : Int))))) = u8) (u10 : _) (hu10 : [u6, u16, AV.v (.int .i64 u15), AV.v (.int .i64 0)] = u10) (u12 : _) (hu12 : (decide (u13 + Int.toNat u15 < m)) = u12) (u14 : _) (hu14 : (decide (u15 < (m : Int))) = u14) (u0 : _) (hu0 : (Res.out .normal [u6, AV.own 1 u5, u8] [AB.row false m 2 (rowE ft fc) t, AB.row true u5 2 (fun q ↦ [Value.string (bif Nat.blt q u2 then bif Nat.blt q u4 then gt (u13 + (q - u13)) else ft u7 else gt (Int.toNat u9 + (q - u2))), Value.int .u32 (bif Nat.blt q u2 then bif Nat.blt q u4 then gc (u13 + (q - u13)) else fc u7 else gc (Int.toNat u9 + (q - u2)))]) (27 : Nat)]) = u0) (u1 : _) (hu1 : [decide (u9 ≤ u11), decide (u11 ≤ u11), Nat.ble n n, Nat.ble u4 (549755813888 : Nat), Nat.ble u4 n, u14, u12, Nat.ble u4 u4, Nat.ble u2 (549755813888 : Nat), decide (u9 ≤ u11), decide (u11 ≤ u11), decide (u11 ≤ u11), Nat.ble n n, Nat.ble u2 u2, Nat.ble u5 (549755813888 : Nat), Nat.ble (Int.toNat u9 + Int.toNat (u11 - u9)) n] = u1) : execC Tryz.prog (gmBS er ls) 100 (lamBT m ft fc t n gt gc i k) (loopAt 0 fBS) (mkT 0 72 ((lvBS .normal).zip [.sl 0 2 0 0 m none, .own 1 n, .v (i64 i)])) (hpBS m ft fc t n gt gc) (leafV 72 lvBS 1)
    = bif decide (u15 < (m : Int)) then needs [u14, u12] (bif !er (ft u7) (fc u7) then Res.out .normal [u6, u16, u8] u3 else needs [chk (u10 = u10 ∧ Hsim u3 (hpBS m ft fc t n gt gc))] (bif decide (u9 < u11) then needs [decide (u9 < u11), decide (Int.toNat u9 < n), u14, u12] (bif eqB (gt (Int.toNat u9)) (ft u7) && (gc (Int.toNat u9) == fc u7 && true) then Res.out .normal [u6, u16, u8] u3 else needs u1 u0) else needs u1 u0)) else Res.out (Ex.exit u13) [u16] u3 := by
  subst hu1 hu0 hu14 hu12 hu10 hu8 hu7 hu6 hu5 hu4 hu2 hu16 hu15 hu13 hu11 hu9 hu3
  kernel_rfl
theorem rndBS (er : ByteArray → Int → Bool) (ls : ByteArray → Int → ByteArray → Int → Bool) (m : Nat) (ft : Nat → ByteArray) (fc : Nat → Int) (t : TypeId) (n : Nat) (gt : Nat → ByteArray) (gc : Nat → Int) (i k : Nat) : type_of% (rndBS_h er ls m ft fc t n gt gc i k _ rfl _ rfl _ rfl _ rfl _ rfl _ rfl _ rfl _ rfl _ rfl _ rfl _ rfl _ rfl _ rfl _ rfl _ rfl _ rfl _ rfl) := rndBS_h er ls m ft fc t n gt gc i k _ rfl _ rfl _ rfl _ rfl _ rfl _ rfl _ rfl _ rfl _ rfl _ rfl _ rfl _ rfl _ rfl _ rfl _ rfl _ rfl _ rfl

theorem rndBE (er : ByteArray → Int → Bool) (ls : ByteArray → Int → ByteArray → Int → Bool) (m : Nat) (ft : Nat → ByteArray) (fc : Nat → Int) (t : TypeId) (n : Nat) (gt : Nat → ByteArray) (gc : Nat → Int) (i : Nat) : execC Tryz.prog (gmBS er ls) 100 (oneL 2 errS) (loopAt 0 fBS) (mkT 0 72 ((lvBS .normal).zip [.sl 0 2 0 0 m none, .own 1 n, .v (i64 i)])) (hpBS m ft fc t n gt gc) (leafV 72 lvBS 1)
    = bif decide ((↑i : Int) < (m : Int)) then needs [decide ((↑i : Int) < (m : Int)), decide ((0 : Nat) + Int.toNat (↑i : Int) < m), !er (ft ((0 : Nat) + Int.toNat (↑i : Int))) (fc ((0 : Nat) + Int.toNat (↑i : Int)))] (Res.out .normal [AV.sl 0 (2 : Nat) (0 : Nat) (0 : Nat) m none, AV.own 1 n, AV.v (.int .i64 (IntKind.wrap .i64 ((↑i : Int) + (1 : Int))))] [AB.row false m 2 (rowE ft fc) t, AB.row true n 2 (rowE gt gc) 27]) else Res.out (Ex.exit (0 : Nat)) [AV.own 1 n] [AB.row false m 2 (rowE ft fc) t, AB.row true n 2 (rowE gt gc) 27] := by kernel_rfl

noncomputable abbrev lamBS (m : Nat) (ft : Nat → ByteArray) (fc : Nat → Int) (t : TypeId) (n2 : Nat) (g2 : Nat → ByteArray) (c2 : Nat → Int) : Nat → Option Sum := oneL 0 (atS 72 (lvBS .normal) 1 [.sl 0 2 0 0 m none, .own 1 0, .v (i64 (0 : Nat))] (hpBS m ft fc t 0 (fun _ => ⟨⟨[]⟩⟩) (fun _ => 0)) (fun K => K .normal (mkT 0 72 [(4, .own 1 n2)]) (hpBS m ft fc t n2 g2 c2)))
theorem treeBS (er : ByteArray → Int → Bool) (ls : ByteArray → Int → ByteArray → Int → Bool) (m : Nat) (ft : Nat → ByteArray) (fc : Nat → Int) (t : TypeId) (n2 : Nat) (g2 : Nat → ByteArray) (c2 : Nat → Int) : execF Tryz.prog (gmBS er ls) (lamBS m ft fc t n2 g2 c2) 100 fBS [.sl 0 2 0 0 m none] [.row false m 2 (rowE ft fc) t] (packK 1)
    = bif decide ((m : Int) > (50 : Int)) then Res.out .ret [AV.tup [AV.own 1 (0 : Nat), AV.v (.bool false)]] [AB.row false m 2 (rowE ft fc) t, AB.row true (0 : Nat) (2 : Nat) (fun _ ↦ []) (27 : Nat)] else needs [chk ([AV.sl 0 (2 : Nat) (0 : Nat) (0 : Nat) m none, AV.own 1 (0 : Nat), AV.v (.int .i64 0)] = [AV.sl 0 (2 : Nat) (0 : Nat) (0 : Nat) m none, AV.own 1 (0 : Nat), AV.v (.int .i64 0)] ∧ Hsim [AB.row false m 2 (rowE ft fc) t, AB.row true (0 : Nat) (2 : Nat) (fun _ ↦ []) (27 : Nat)] (hpBS m ft fc t (0 : Nat) (fun _ ↦ ByteArray.mk (Array.mk [])) fun _ ↦ (0 : Int)))] (Res.out .ret [AV.tup [AV.own 1 n2, AV.v (.bool true)]] [AB.row false m 2 (rowE ft fc) t, AB.row true n2 2 (rowE g2 c2) 27]) := by kernel_rfl

theorem treeBS0 (er : ByteArray → Int → Bool) (ls : ByteArray → Int → ByteArray → Int → Bool) (m : Nat) (ft : Nat → ByteArray) (fc : Nat → Int) (t : TypeId) : execF Tryz.prog (gmBS er ls) (oneL 0 errS) 100 fBS [.sl 0 2 0 0 m none] [.row false m 2 (rowE ft fc) t] (packK 1)
    = needs [decide ((m : Int) > (50 : Int))] (Res.out .ret [AV.tup [AV.own 1 (0 : Nat), AV.v (.bool false)]] [AB.row false m 2 (rowE ft fc) t, AB.row true (0 : Nat) (2 : Nat) (fun _ ↦ []) (27 : Nat)]) := by kernel_rfl

end Go.Proofs.YtcadinbahmliiaaGreatDoor

/- The reference's BookSort: its word. Conditions: entries, at most 50. -/
namespace Go.Proofs.YtcadinbahmliiaaGreatDoor
open Go.RowKit
set_option maxRecDepth 100000

def eT (L : List (ByteArray × Int)) (j : Nat) : ByteArray := (L.getD j (⟨⟨[]⟩⟩, 0)).1
def eC (L : List (ByteArray × Int)) (j : Nat) : Int := (L.getD j (⟨⟨[]⟩⟩, 0)).2
def posL : List (ByteArray × Int) → ByteArray → Int → Nat
  | [], _, _ => 0
  | y :: L, s, c => bif lsB y.1 y.2 s c then posL L s c + 1 else 0
def hasK (L : List (ByteArray × Int)) (s : ByteArray) (c : Int) : Bool := decide (posL L s c < L.length) && (eqB (eT L (posL L s c)) s && (eC L (posL L s c) == c))
def insL (L : List (ByteArray × Int)) (s : ByteArray) (c : Int) : List (ByteArray × Int) := bif hasK L s c then L else L.take (posL L s c) ++ (s, c) :: L.drop (posL L s c)
def bkL (er : ByteArray → Int → Bool) (ft : Nat → ByteArray) (fc : Nat → Int) : Nat → List (ByteArray × Int)
  | 0 => []
  | i + 1 => bif er (ft i) (fc i) then insL (bkL er ft fc i) (ft i) (fc i) else bkL er ft fc i
theorem posL_le (L : List (ByteArray × Int)) (s : ByteArray) (c : Int) : posL L s c ≤ L.length := by
  induction L with
  | nil => exact Nat.le_refl _
  | cons y L ih =>
    unfold posL
    cases lsB y.1 y.2 s c with
    | true => simp only [cond_true, List.length_cons]; omega
    | false => simp only [cond_false, List.length_cons]; omega
theorem posL_at {L : List (ByteArray × Int)} {s : ByteArray} {c : Int} {k : Nat} (hk : k ≤ L.length) (h1 : ∀ j, j < k → lsB (eT L j) (eC L j) s c = true) (h2 : k = L.length ∨ lsB (eT L k) (eC L k) s c = false) : posL L s c = k := by
  induction L generalizing k with
  | nil => simp only [List.length_nil] at hk; unfold posL; omega
  | cons y L ih =>
    unfold posL
    match k with
    | 0 =>
      have h2 := h2.resolve_left (by simp)
      have : lsB y.1 y.2 s c = false := h2
      rw [this]; rfl
    | k + 1 =>
      have : lsB y.1 y.2 s c = true := h1 0 (by omega)
      rw [this, cond_true, ih (k := k) (by simp only [List.length_cons] at hk; omega) (fun j hj => h1 (j + 1) (by omega)) (h2.imp (fun h => by simp only [List.length_cons] at h; omega) fun h => h)]
theorem insL_len (L : List (ByteArray × Int)) (s : ByteArray) (c : Int) : (insL L s c).length ≤ L.length + 1 := by
  have := posL_le L s c
  unfold insL
  cases hasK L s c with
  | true => simp only [cond_true]; omega
  | false => simp only [cond_false, List.length_append, List.length_take, List.length_cons, List.length_drop]; omega
theorem bkL_len (er : ByteArray → Int → Bool) (ft : Nat → ByteArray) (fc : Nat → Int) (i : Nat) : (bkL er ft fc i).length ≤ i := by
  induction i with
  | zero => exact Nat.le_refl _
  | succ i ih =>
    unfold bkL
    have := insL_len (bkL er ft fc i) (ft i) (fc i)
    cases er (ft i) (fc i) with
    | true => simp only [cond_true]; omega
    | false => simp only [cond_false]; omega
theorem ins_row {L : List (ByteArray × Int)} {s : ByteArray} {c : Int} {q : Nat} (hh : hasK L s c = false) (hq : q < posL L s c + 1 + (L.length - posL L s c)) :
    [Value.string (bif Nat.blt q (posL L s c + 1) then bif Nat.blt q (posL L s c) then eT L q else s else eT L (posL L s c + (q - (posL L s c + 1)))), Value.int .u32 (bif Nat.blt q (posL L s c + 1) then bif Nat.blt q (posL L s c) then eC L q else c else eC L (posL L s c + (q - (posL L s c + 1))))] = rowE (eT (insL L s c)) (eC (insL L s c)) q := by
  have hp := posL_le L s c
  have e : insL L s c = L.take (posL L s c) ++ (s, c) :: L.drop (posL L s c) := by rw [insL, hh]; rfl
  have hlen : (L.take (posL L s c)).length = posL L s c := by rw [List.length_take]; omega
  have key : (insL L s c).getD q (⟨⟨[]⟩⟩, 0) = bif Nat.blt q (posL L s c + 1) then (bif Nat.blt q (posL L s c) then L.getD q (⟨⟨[]⟩⟩, 0) else (s, c)) else L.getD (posL L s c + (q - (posL L s c + 1))) (⟨⟨[]⟩⟩, 0) := by
    rw [e]
    simp only [List.getD_eq_getElem?_getD]
    by_cases h1 : q < posL L s c
    · rw [blt_yes (by omega), blt_yes h1, List.getElem?_append_left (by omega), List.getElem?_take_of_lt h1]
      rfl
    · rw [List.getElem?_append_right (by omega), hlen]
      by_cases h2 : q = posL L s c
      · rw [blt_yes (by omega), show Nat.blt q (posL L s c) = false by rw [Bool.eq_false_iff, ne_eq, Nat.blt_eq]; omega, show q - posL L s c = 0 by omega]
        rfl
      · rw [show Nat.blt q (posL L s c + 1) = false by rw [Bool.eq_false_iff, ne_eq, Nat.blt_eq]; omega, show q - posL L s c = (q - (posL L s c + 1)) + 1 by omega, List.getElem?_cons_succ, List.getElem?_drop]
        rfl
  simp only [rowE, eT, eC, key]
  cases Nat.blt q (posL L s c + 1) with
  | false => rfl
  | true =>
    cases Nat.blt q (posL L s c) with
    | false => rfl
    | true => rfl

theorem ok_lsS : SpecOk Tryz.prog 48 (specV (FlsO lsB)) := by
  refine mkV (n := 100) g0_ok Tryz.func48 rfl fun vs v ob hF ho => ?_
  unfold FlsO at hF
  split at hF
  · rename_i s1 c1 s2 c2
    cases hF
    show Good (execF Tryz.prog g0 noLam 100 Tryz.f48 [.v (.agg ⟨[.string s1, .int .u32 c1]⟩), .v (.agg ⟨[.string s2, .int .u32 c2]⟩)] [] valK) _
    rw [treeLs, lsB]
    cases h : c1 != c2 with
    | true => exact one rfl
    | false => exact one rfl
  · cases hF
theorem gmBS_ok : GamOk Tryz.prog (gmBS erB lsB) := ext_ok (ext_ok g0_ok ok_erS) ok_lsS
theorem sumBT (m : Nat) (ft : Nat → ByteArray) (fc : Nat → Int) (t : TypeId) (L : List (ByteArray × Int)) (i : Nat) (hL : L.length ≤ 2 ^ 30) (hi : i < m) :
    SumOk Tryz.prog 1 (.block 2 (.loop (loopAt 2 fBS))) (atS 72 (lvBT .normal) 1 [.sl 0 2 0 0 m none, .own 1 L.length, .v (i64 i), .v (i64 (0 : Nat))] (hpBS m ft fc t L.length (eT L) (eC L)) (fun K => K .normal (mkT 0 72 [(0, .sl 0 2 0 0 m none), (4, .own 1 L.length), (5, .v (i64 i)), (6, .v (i64 (posL L (ft i) (fc i) : Nat)))]) (hpBS m ft fc t L.length (eT L) (eC L)))) := by
  refine for_at gmBS_ok (n := 100) (m := 1) (lv := lvBT) (fun k => [.sl 0 2 0 0 m none, .own 1 L.length, .v (i64 i), .v (i64 (k : Nat))]) (fun _ => hpBS m ft fc t L.length (eT L) (eC L)) (fun k => ∀ j, j < k → lsB (eT L j) (eC L j) (ft i) (fc i) = true) L.length (fun _ => noLam) (lv3_ris rfl rfl rfl) (Nat.le_refl _) (fun j hj => absurd hj (Nat.not_lt_zero j)) fun K Q hk k hi2 him => ⟨noLam_ok _ _ _, ?_⟩
  rw [rndBT]
  have out : (k = L.length ∨ lsB (eT L k) (eC L k) (ft i) (fc i) = false) → RoundV 72 2 lvBT (fun k => [.sl 0 2 0 0 m none, .own 1 L.length, .v (i64 i), .v (i64 (k : Nat))]) (fun _ => hpBS m ft fc t L.length (eT L) (eC L)) (fun s' => s' = k + 1 ∧ k < L.length ∧ ∀ j, j < k + 1 → lsB (eT L j) (eC L j) (ft i) (fc i) = true) K Q (.exit 2) [.sl 0 2 0 0 m none, .own 1 L.length, .v (i64 i), .v (i64 (k : Nat))] (hpBS m ft fc t L.length (eT L) (eC L)) := fun h => by
    refine ⟨_, Hsim.refl _, ?_⟩
    rw [if_pos rfl]
    rw [posL_at him hi2 h] at hk
    exact hk
  refine good_cond (fun c1 => ?_) fun c1 => ?_
  · have c1 := of_decide_eq_true c1
    have c1' : k < L.length := by omega
    simp only [Int.toNat_natCast, Nat.zero_add]
    rw [wr_in (x := (k : Int) + 1) (by omega)]
    refine good_needs (by simp only [ob_cons, ob_nil, and_true, decide_eq_true_eq]; omega) (good_cond (fun q => good_out ⟨k + 1, ⟨rfl, c1', fun j hj => ?_⟩, rfl, Hsim.refl _⟩) fun q => good_out (out (.inr q)))
    by_cases e : j = k
    · rw [e]; exact q
    · exact hi2 j (by omega)
  · have c1 := of_decide_eq_false c1
    exact good_out (out (.inl (by omega)))
theorem sumBS (m : Nat) (ft : Nat → ByteArray) (fc : Nat → Int) (t : TypeId) (hm : m ≤ 2 ^ 30) :
    SumOk Tryz.prog 1 (.block 0 (.loop (loopAt 0 fBS))) (atS 72 (lvBS .normal) 1 [.sl 0 2 0 0 m none, .own 1 0, .v (i64 (0 : Nat))] (hpBS m ft fc t 0 (fun _ => ⟨⟨[]⟩⟩) (fun _ => 0)) (fun K => K .normal (mkT 0 72 [(4, .own 1 (bkL erB ft fc m).length)]) (hpBS m ft fc t (bkL erB ft fc m).length (eT (bkL erB ft fc m)) (eC (bkL erB ft fc m))))) := by
  refine for_at gmBS_ok (n := 100) (m := 1) (lv := lvBS) (fun i => [.sl 0 2 0 0 m none, .own 1 (bkL erB ft fc i).length, .v (i64 (i : Nat))]) (fun i => hpBS m ft fc t (bkL erB ft fc i).length (eT (bkL erB ft fc i)) (eC (bkL erB ft fc i))) (fun _ => True) m (fun i => bif Nat.blt i m then lamBT m ft fc t (bkL erB ft fc i).length (eT (bkL erB ft fc i)) (eC (bkL erB ft fc i)) i (posL (bkL erB ft fc i) (ft i) (fc i)) else oneL 2 errS) (lv3_ris rfl rfl rfl) (Nat.le_refl _) trivial fun K Q hk i hi him => ?_
  have hl := bkL_len erB ft fc i
  by_cases c : i < m
  · rw [blt_yes c, cond_true]
    refine ⟨lamC (by kernel_rfl) (sumBT m ft fc t (bkL erB ft fc i) i (by omega) c), ?_⟩
    have hp := posL_le (bkL erB ft fc i) (ft i) (fc i)
    rw [rndBS]
    refine good_cond (fun _ => ?_) fun c1 => absurd (of_decide_eq_false c1) (by omega)
    simp only [Int.toNat_natCast, Nat.zero_add]
    rw [wr_in (x := (i : Int) + 1) (by omega)]
    have keep : bkL erB ft fc (i + 1) = bkL erB ft fc i → RoundV 72 0 lvBS (fun i => [.sl 0 2 0 0 m none, .own 1 (bkL erB ft fc i).length, .v (i64 (i : Nat))]) (fun i => hpBS m ft fc t (bkL erB ft fc i).length (eT (bkL erB ft fc i)) (eC (bkL erB ft fc i))) (fun s' => s' = i + 1 ∧ i < m ∧ True) K Q .normal [.sl 0 2 0 0 m none, .own 1 (bkL erB ft fc i).length, .v (i64 ((i : Int) + 1))] (hpBS m ft fc t (bkL erB ft fc i).length (eT (bkL erB ft fc i)) (eC (bkL erB ft fc i))) := fun h =>
      ⟨i + 1, ⟨rfl, c, trivial⟩, by simp only [h]; rfl, by simp only [h]; exact Hsim.refl _⟩
    refine good_needs (by simp only [ob_cons, ob_nil, and_true, decide_eq_true_eq]; omega) (good_cond (fun q => good_out (keep ?_)) fun q => ?_)
    · rw [Bool.not_eq_true'] at q
      rw [bkL, q]; rfl
    · rw [Bool.not_eq_false'] at q
      have e0 : (((posL (bkL erB ft fc i) (ft i) (fc i) : Nat) : Int) - 0).toNat = posL (bkL erB ft fc i) (ft i) (fc i) := by omega
      have e1 : (((bkL erB ft fc i).length : Int) - ((posL (bkL erB ft fc i) (ft i) (fc i) : Nat) : Int)).toNat = (bkL erB ft fc i).length - posL (bkL erB ft fc i) (ft i) (fc i) := by omega
      simp only [e0, e1, Nat.sub_zero, Bool.and_true]
      have put : hasK (bkL erB ft fc i) (ft i) (fc i) = false → RoundV 72 0 lvBS (fun i => [.sl 0 2 0 0 m none, .own 1 (bkL erB ft fc i).length, .v (i64 (i : Nat))]) (fun i => hpBS m ft fc t (bkL erB ft fc i).length (eT (bkL erB ft fc i)) (eC (bkL erB ft fc i))) (fun s' => s' = i + 1 ∧ i < m ∧ True) K Q .normal [.sl 0 2 0 0 m none, .own 1 (posL (bkL erB ft fc i) (ft i) (fc i) + 1 + ((bkL erB ft fc i).length - posL (bkL erB ft fc i) (ft i) (fc i))), .v (i64 ((i : Int) + 1))] [.row false m 2 (rowE ft fc) t, .row true (posL (bkL erB ft fc i) (ft i) (fc i) + 1 + ((bkL erB ft fc i).length - posL (bkL erB ft fc i) (ft i) (fc i))) 2 (fun q => [Value.string (bif Nat.blt q (posL (bkL erB ft fc i) (ft i) (fc i) + 1) then bif Nat.blt q (posL (bkL erB ft fc i) (ft i) (fc i)) then eT (bkL erB ft fc i) q else ft i else eT (bkL erB ft fc i) (posL (bkL erB ft fc i) (ft i) (fc i) + (q - (posL (bkL erB ft fc i) (ft i) (fc i) + 1)))), Value.int .u32 (bif Nat.blt q (posL (bkL erB ft fc i) (ft i) (fc i) + 1) then bif Nat.blt q (posL (bkL erB ft fc i) (ft i) (fc i)) then eC (bkL erB ft fc i) q else fc i else eC (bkL erB ft fc i) (posL (bkL erB ft fc i) (ft i) (fc i) + (q - (posL (bkL erB ft fc i) (ft i) (fc i) + 1))))]) 27] := fun h => by
        have e : bkL erB ft fc (i + 1) = insL (bkL erB ft fc i) (ft i) (fc i) := by rw [bkL, q]; rfl
        have hlen : (insL (bkL erB ft fc i) (ft i) (fc i)).length = posL (bkL erB ft fc i) (ft i) (fc i) + 1 + ((bkL erB ft fc i).length - posL (bkL erB ft fc i) (ft i) (fc i)) := by
          rw [insL, h]
          simp only [cond_false, List.length_append, List.length_take, List.length_cons, List.length_drop]
          omega
        refine ⟨i + 1, ⟨rfl, c, trivial⟩, ?_, ?_⟩
        · simp only [e, hlen]; rfl
        · simp only [e, hlen]
          exact .cons (ABeq.refl _) (.cons (ABeq.row fun q hq => ins_row h hq) .nil)
      refine good_needs (by simp only [ob_cons, ob_nil, and_true]; exact chk_of ⟨trivial, Hsim.refl _⟩) (good_cond (fun c2 => ?_) fun c2 => ?_)
      · have c2' := of_decide_eq_true c2
        have c3 : posL (bkL erB ft fc i) (ft i) (fc i) < (bkL erB ft fc i).length := by omega
        refine good_needs (by simp only [ob_cons, ob_nil, and_true, decide_eq_true_eq]; omega) (good_cond (fun q2 => good_out (keep ?_)) fun q2 => good_needs (by simp only [ob_cons, ob_nil, and_true, decide_eq_true_eq, Nat.ble_eq]; omega) (good_out (put ?_)))
        · rw [bkL, q, cond_true, insL, hasK, decide_eq_true c3, q2]; rfl
        · rw [hasK, decide_eq_true c3, q2]; rfl
      · have c2' := of_decide_eq_false c2
        refine good_needs (by simp only [ob_cons, ob_nil, and_true, decide_eq_true_eq, Nat.ble_eq]; omega) (good_out (put ?_))
        rw [hasK, decide_eq_false (by omega)]; rfl
  · have : i = m := by omega
    subst this
    rw [show Nat.blt i i = false by rw [Bool.eq_false_iff, ne_eq, Nat.blt_eq]; omega, cond_false]
    refine ⟨lamC (c := loopAt 2 fBS) (by kernel_rfl) errS_ok, ?_⟩
    rw [rndBE]
    refine good_cond (fun c1 => absurd (of_decide_eq_true c1) (by omega)) fun _ => good_out ⟨_, Hsim.refl _, ?_⟩
    rw [if_pos rfl]
    exact hk

end Go.Proofs.YtcadinbahmliiaaGreatDoor

/- The reference's BookSort: contract. Conditions: entries. -/
namespace Go.Proofs.YtcadinbahmliiaaGreatDoor
open Go.RowKit
set_option maxRecDepth 100000

def bsL (m : Nat) (ft : Nat → ByteArray) (fc : Nat → Int) : List (ByteArray × Int) := bif decide (m > 50) then [] else bkL erB ft fc m
def FbsO (L : Nat → (Nat → ByteArray) → (Nat → Int) → List (ByteArray × Int)) : List SA → Option FR
  | [.row m g] => some { val := .tup [.own 0 (L m (itT g) (itC g)).length, .v (.bool (!decide (m > 50)))], new := [.row true (L m (itT g) (itC g)).length 2 (rowE (eT (L m (itT g) (itC g))) (eC (L m (itT g) (itC g)))) 27], obl := [allE m g] }
  | _ => none
def md_bs : List Md := [.rd 2 27]
theorem ok_bsS : SpecOk Tryz.prog 20 (specR md_bs (FbsO bsL)) := by
  refine specR_hr gmBS_ok Tryz.func20 rfl fun sas fr hF ho => ?_
  unfold FbsO at hF
  split at hF
  · rename_i m g
    cases hF
    simp only [ob_cons] at ho
    obtain ⟨h1, _⟩ := ho
    by_cases c : m > 50
    · refine ⟨[.row false m 2 (rowE (itT g) (itC g)) 27], oneL 0 errS, 100, .cons (ABeq.row fun j hj => allE_get h1 j hj) .nil, lam1 (c := loopAt 0 fBS) (by kernel_rfl) errS_ok, ?_⟩
      show GoodQ (execF Tryz.prog (gmBS erB lsB) (oneL 0 errS) 100 fBS [.sl 0 2 0 0 m none] [.row false m 2 (rowE (itT g) (itC g)) 27] (packK 1)) _
      rw [treeBS0]
      have e : bsL m (itT g) (itC g) = [] := by rw [bsL, decide_eq_true c]; rfl
      refine good_needs (by simp only [ob_cons, ob_nil, and_true, decide_eq_true_eq]; omega) (good_out ⟨_, ?_, rfl, .cons (ABeq.row fun j hj => (allE_get h1 j hj).symm) (.cons ?_ .nil)⟩)
      · simp only [e, decide_eq_true c]; rfl
      · simp only [e]
        exact ABeq.row fun j hj => absurd hj (Nat.not_lt_zero j)
    · have e : bsL m (itT g) (itC g) = bkL erB (itT g) (itC g) m := by rw [bsL, decide_eq_false c]; rfl
      simp only [e]
      generalize hL : bkL erB (itT g) (itC g) m = L
      have hS := sumBS m (itT g) (itC g) 27 (by omega)
      rw [hL] at hS
      refine ⟨[.row false m 2 (rowE (itT g) (itC g)) 27], lamBS m (itT g) (itC g) 27 L.length (eT L) (eC L), 100, .cons (ABeq.row fun j hj => allE_get h1 j hj) .nil, lam1 (by kernel_rfl) hS, ?_⟩
      show GoodQ (execF Tryz.prog (gmBS erB lsB) (lamBS m (itT g) (itC g) 27 L.length (eT L) (eC L)) 100 fBS [.sl 0 2 0 0 m none] [.row false m 2 (rowE (itT g) (itC g)) 27] (packK 1)) _
      rw [treeBS]
      refine good_cond (fun c1 => absurd (of_decide_eq_true c1) (by omega)) fun _ => good_needs ?_ (good_out ⟨_, ?_, rfl, .cons (ABeq.row fun j hj => (allE_get h1 j hj).symm) (Hsim.refl _)⟩)
      · simp only [ob_cons, ob_nil, and_true]
        exact chk_of ⟨trivial, .cons (ABeq.refl _) (.cons (ABeq.row fun j hj => absurd hj (Nat.not_lt_zero j)) .nil)⟩
      · rw [decide_eq_false c]; rfl
  · cases hF

end Go.Proofs.YtcadinbahmliiaaGreatDoor

/- pick, where there are no bytes; the lengths of rows. No conditions. -/
namespace Go.Proofs.YtcadinbahmliiaaGreatDoor
open Go.RowKit
set_option maxRecDepth 100000

theorem treePk0 (q : Option Addr) (c : Nat) (p n : Int) (tr : TypeId) : execF Tryz.prog g0 noLam 100 Tryz.f58 [.ptr 0 0 0 0, .v (i64 n)] [.cells [.v (.slice q 0 c), .v (i64 p)] tr] (packK 1)
    = bif decide (n < (1 : Int)) then Res.out .ret [AV.v (.int .i64 0)] [AB.cells [AV.v (Value.slice q (0 : Nat) c), AV.v (.int .i64 (IntKind.wrap .i64 (p + (1 : Int))))] tr] else Res.out .ret [AV.v (.int .i64 0)] [AB.cells [AV.v (Value.slice q (0 : Nat) c), AV.v (.int .i64 (IntKind.wrap .i64 (p + (1 : Int))))] tr] := by kernel_rfl

def Fpk0 : List AV → List AB → Option HR
  | [.ptr 0 0 0 0, .v (.int .i64 _)], [.cells [.v (.slice q 0 c), .v (.int .i64 p)] tr] => some { val := .v (.int .i64 0), out := [.cells [.v (.slice q 0 c), .v (.int .i64 (p + 1))] tr], obl := [decide (0 ≤ p), decide (p ≤ 2 ^ 30)] }
  | _, _ => none
theorem ok_pick0 : SpecOk Tryz.prog 58 (specK [] Fpk0) := by
  refine specK_ok g0_ok Tryz.func58 rfl fun avs H hr hF ho => ?_
  unfold Fpk0 at hF
  split at hF
  · rename_i n q c p tr
    cases hF
    simp only [ob_cons, decide_eq_true_eq] at ho
    obtain ⟨h1, h2, _⟩ := ho
    refine ⟨[.cells [.v (.slice q 0 c), .v (i64 p)] tr], noLam, 100, Hsim.refl _, noLam' _, ?_⟩
    rw [show execF Tryz.prog g0 noLam 100 Tryz.f58 [.ptr 0 0 0 0, .v (.int .i64 n)] [.cells [.v (.slice q 0 c), .v (i64 p)] tr] (packK [AB.cells [AV.v (.slice q 0 c), .v (i64 p)] tr].length) = _ from treePk0 q c p n tr]
    rw [wr_in (x := p + 1) (by omega)]
    exact good_cond (fun _ => good_out ⟨rfl, Hsim.refl _⟩) fun _ => good_out ⟨rfl, Hsim.refl _⟩
  · cases hF
def gmPk0 : Gam := ext g0 58 (specK [] Fpk0)
theorem gmPk0_ok : GamOk Tryz.prog gmPk0 := ext_ok g0_ok ok_pick0
end Go.Proofs.YtcadinbahmliiaaGreatDoor

/- What is drawn: entries: trees. Conditions: bytes. -/
namespace Go.Proofs.YtcadinbahmliiaaGreatDoor
open Go.RowKit
set_option maxRecDepth 100000

def gmDS (dt : Nat → (Nat → Int) → Int → ByteArray) (ds dp : Nat → (Nat → Int) → Int → Int) (pk : Nat → (Nat → Int) → Int → Int → Int) (q : Int) : Gam :=
  ext (ext g0 58 (specK [] (FpkJ pk 4 q))) 43 (specK [] (FenO dt ds dp))
theorem treeDS0 (dt : Nat → (Nat → Int) → Int → ByteArray) (ds dp : Nat → (Nat → Int) → Int → Int) (pk : Nat → (Nat → Int) → Int → Int → Int) (m : Nat) (b : Nat → Int) : execF Tryz.prog (gmDS dt ds dp pk 0) noLam 100 Tryz.f26 [.sl 0 1 0 0 m none] [.row false m 1 (rowB b) 5] (packK 1)
    = bif decide ((m : Int) > (2000 : Int)) then needs [decide ((2000 : Int) ≤ (m : Int)), decide ((m : Int) ≤ (m : Int)), okB m (rowB b), decide (Int.toNat (2000 - 0) ≤ m), decide (pk (Int.toNat (2000 - 0)) (itB (rowB b)) (0 : Int) (4 : Int) = (0 : Int)), decide ((0 : Nat) < m)] (Res.out .ret [AV.own 1 (0 : Nat)] [AB.row false m 1 (rowB b) 5, AB.row true (0 : Nat) (2 : Nat) (fun _ ↦ []) (27 : Nat)]) else needs [okB m (rowB b), decide (m ≤ m), decide (pk m (itB (rowB b)) (0 : Int) (4 : Int) = (0 : Int)), decide ((0 : Nat) < m)] (Res.out .ret [AV.own 1 (0 : Nat)] [AB.row false m 1 (rowB b) 5, AB.row true (0 : Nat) (2 : Nat) (fun _ ↦ []) (27 : Nat)]) := by kernel_rfl

theorem treeDS1_h (dt : Nat → (Nat → Int) → Int → ByteArray) (ds dp : Nat → (Nat → Int) → Int → Int) (pk : Nat → (Nat → Int) → Int → Int → Int) (m : Nat) (b : Nat → Int) (u1 : _) (hu1 : (itB (rowB b)) = u1) (u2 : _) (hu2 : (decide ((0 : Nat) < m)) = u2) (u4 : _) (hu4 : (1 : Int) = u4) (u6 : _) (hu6 : (1 : Nat) = u6) (u7 : _) (hu7 : (okB m (rowB b)) = u7) (u8 : _) (hu8 : (2 : Nat) = u8) (u9 : _) (hu9 : (0 : Int) = u9) (u0 : _) (hu0 : (Int.toNat ((2000 : Int) - u9)) = u0) (u3 : _) (hu3 : (AB.row false m u6 (rowB b) 5) = u3) (u5 : _) (hu5 : (decide (Int.toNat ((2000 : Int) - u9) ≤ m)) = u5) : execF Tryz.prog (gmDS dt ds dp pk 1) noLam 100 Tryz.f26 [.sl 0 1 0 0 m none] [.row false m 1 (rowB b) 5] (packK 1)
    = bif decide ((m : Int) > (2000 : Int)) then needs [decide ((2000 : Int) ≤ (m : Int)), decide ((m : Int) ≤ (m : Int)), u7, u5, decide (pk u0 u1 u9 (4 : Int) = u4), u2, u7, u5, u2, u2, u7, u5, decide (u9 ≤ dp u0 u1 u4), decide (dp u0 u1 u4 ≤ (1073741824 : Int)), u2] (bif pk u0 u1 (dp u0 u1 u4) (3 : Int) == u9 then Res.out .ret [AV.own u6 u8] [u3, AB.row true u8 u8 (fun q ↦ [Value.string (bif Nat.blt q u6 then dt u0 u1 u4 else dt u0 u1 u4), Value.int .u32 (bif Nat.blt q u6 then ds u0 u1 u4 else ds u0 u1 u4)]) (27 : Nat)] else Res.out .ret [AV.own u6 u6] [u3, AB.row true u6 u8 (fun _ ↦ [Value.string (dt u0 u1 u4), Value.int .u32 (ds u0 u1 u4)]) (27 : Nat)]) else needs [u7, decide (m ≤ m), decide (pk m u1 u9 (4 : Int) = u4), u2, u7, decide (m ≤ m), u2, u2, u7, decide (m ≤ m), decide (u9 ≤ dp m u1 u4), decide (dp m u1 u4 ≤ (1073741824 : Int)), u2] (bif pk m u1 (dp m u1 u4) (3 : Int) == u9 then Res.out .ret [AV.own u6 u8] [u3, AB.row true u8 u8 (fun q ↦ [Value.string (bif Nat.blt q u6 then dt m u1 u4 else dt m u1 u4), Value.int .u32 (bif Nat.blt q u6 then ds m u1 u4 else ds m u1 u4)]) (27 : Nat)] else Res.out .ret [AV.own u6 u6] [u3, AB.row true u6 u8 (fun _ ↦ [Value.string (dt m u1 u4), Value.int .u32 (ds m u1 u4)]) (27 : Nat)]) := by
  subst hu5 hu3 hu0 hu9 hu8 hu7 hu6 hu4 hu2 hu1
  kernel_rfl
theorem treeDS1 (dt : Nat → (Nat → Int) → Int → ByteArray) (ds dp : Nat → (Nat → Int) → Int → Int) (pk : Nat → (Nat → Int) → Int → Int → Int) (m : Nat) (b : Nat → Int) : type_of% (treeDS1_h dt ds dp pk m b _ rfl _ rfl _ rfl _ rfl _ rfl _ rfl _ rfl _ rfl _ rfl _ rfl) := treeDS1_h dt ds dp pk m b _ rfl _ rfl _ rfl _ rfl _ rfl _ rfl _ rfl _ rfl _ rfl _ rfl

theorem treeDS2_h (dt : Nat → (Nat → Int) → Int → ByteArray) (ds dp : Nat → (Nat → Int) → Int → Int) (pk : Nat → (Nat → Int) → Int → Int → Int) (m : Nat) (b : Nat → Int) (u1 : _) (hu1 : (itB (rowB b)) = u1) (u2 : _) (hu2 : (decide ((0 : Nat) < m)) = u2) (u3 : _) (hu3 : (1 : Int) = u3) (u6 : _) (hu6 : (okB m (rowB b)) = u6) (u7 : _) (hu7 : (1 : Nat) = u7) (u8 : _) (hu8 : (2 : Nat) = u8) (u10 : _) (hu10 : (dp m u1 u3) = u10) (u11 : _) (hu11 : (0 : Int) = u11) (u12 : _) (hu12 : (decide (m ≤ m)) = u12) (u0 : _) (hu0 : (Int.toNat ((2000 : Int) - u11)) = u0) (u4 : _) (hu4 : (decide (Int.toNat ((2000 : Int) - u11) ≤ m)) = u4) (u5 : _) (hu5 : (AB.row false m u7 (rowB b) 5) = u5) (u9 : _) (hu9 : (dp u0 u1 u3) = u9) : execF Tryz.prog (gmDS dt ds dp pk 2) noLam 100 Tryz.f26 [.sl 0 1 0 0 m none] [.row false m 1 (rowB b) 5] (packK 1)
    = bif decide ((m : Int) > (2000 : Int)) then needs [decide ((2000 : Int) ≤ (m : Int)), decide ((m : Int) ≤ (m : Int)), u6, u4, decide (pk u0 u1 u11 (4 : Int) = (2 : Int)), u2, u6, u4, u2, u2, u6, u4, decide (u11 ≤ dp u0 u1 u3), decide (dp u0 u1 u3 ≤ (67108864 : Int)), u2, u2, u6, u4, decide (u11 ≤ dp u0 u1 u9), decide (dp u0 u1 u9 ≤ (1073741824 : Int)), u2] (bif pk u0 u1 (dp u0 u1 u9) (3 : Int) == u11 then Res.out .ret [AV.own u7 (3 : Nat)] [u5, AB.row true (3 : Nat) u8 (fun q ↦ [Value.string (bif Nat.blt q u8 then bif Nat.blt q u7 then dt u0 u1 u3 else dt u0 u1 u9 else dt u0 u1 u3), Value.int .u32 (bif Nat.blt q u8 then bif Nat.blt q u7 then ds u0 u1 u3 else ds u0 u1 u9 else ds u0 u1 u3)]) (27 : Nat)] else Res.out .ret [AV.own u7 u8] [u5, AB.row true u8 u8 (fun q ↦ [Value.string (bif Nat.blt q u7 then dt u0 u1 u3 else dt u0 u1 u9), Value.int .u32 (bif Nat.blt q u7 then ds u0 u1 u3 else ds u0 u1 u9)]) (27 : Nat)]) else needs [u6, u12, decide (pk m u1 u11 (4 : Int) = (2 : Int)), u2, u6, u12, u2, u2, u6, u12, decide (u11 ≤ dp m u1 u3), decide (dp m u1 u3 ≤ (67108864 : Int)), u2, u2, u6, u12, decide (u11 ≤ dp m u1 u10), decide (dp m u1 u10 ≤ (1073741824 : Int)), u2] (bif pk m u1 (dp m u1 u10) (3 : Int) == u11 then Res.out .ret [AV.own u7 (3 : Nat)] [u5, AB.row true (3 : Nat) u8 (fun q ↦ [Value.string (bif Nat.blt q u8 then bif Nat.blt q u7 then dt m u1 u3 else dt m u1 u10 else dt m u1 u3), Value.int .u32 (bif Nat.blt q u8 then bif Nat.blt q u7 then ds m u1 u3 else ds m u1 u10 else ds m u1 u3)]) (27 : Nat)] else Res.out .ret [AV.own u7 u8] [u5, AB.row true u8 u8 (fun q ↦ [Value.string (bif Nat.blt q u7 then dt m u1 u3 else dt m u1 u10), Value.int .u32 (bif Nat.blt q u7 then ds m u1 u3 else ds m u1 u10)]) (27 : Nat)]) := by
  subst hu9 hu5 hu4 hu0 hu12 hu11 hu10 hu8 hu7 hu6 hu3 hu2 hu1
  kernel_rfl
theorem treeDS2 (dt : Nat → (Nat → Int) → Int → ByteArray) (ds dp : Nat → (Nat → Int) → Int → Int) (pk : Nat → (Nat → Int) → Int → Int → Int) (m : Nat) (b : Nat → Int) : type_of% (treeDS2_h dt ds dp pk m b _ rfl _ rfl _ rfl _ rfl _ rfl _ rfl _ rfl _ rfl _ rfl _ rfl _ rfl _ rfl _ rfl) := treeDS2_h dt ds dp pk m b _ rfl _ rfl _ rfl _ rfl _ rfl _ rfl _ rfl _ rfl _ rfl _ rfl _ rfl _ rfl _ rfl

theorem treeDS3_h (dt : Nat → (Nat → Int) → Int → ByteArray) (ds dp : Nat → (Nat → Int) → Int → Int) (pk : Nat → (Nat → Int) → Int → Int → Int) (m : Nat) (b : Nat → Int) (u1 : _) (hu1 : (itB (rowB b)) = u1) (u2 : _) (hu2 : (decide ((0 : Nat) < m)) = u2) (u3 : _) (hu3 : (1 : Int) = u3) (u8 : _) (hu8 : (okB m (rowB b)) = u8) (u9 : _) (hu9 : (1 : Nat) = u9) (u10 : _) (hu10 : (2 : Nat) = u10) (u11 : _) (hu11 : (0 : Int) = u11) (u13 : _) (hu13 : (dp m u1 u3) = u13) (u14 : _) (hu14 : (decide (m ≤ m)) = u14) (u15 : _) (hu15 : (3 : Nat) = u15) (u16 : _) (hu16 : (67108864 : Int) = u16) (u0 : _) (hu0 : (Int.toNat ((2000 : Int) - u11)) = u0) (u4 : _) (hu4 : (decide (Int.toNat ((2000 : Int) - u11) ≤ m)) = u4) (u5 : _) (hu5 : (AB.row false m u9 (rowB b) 5) = u5) (u7 : _) (hu7 : (dp m u1 u13) = u7) (u12 : _) (hu12 : (dp u0 u1 u3) = u12) (u6 : _) (hu6 : (dp u0 u1 u12) = u6) : execF Tryz.prog (gmDS dt ds dp pk 3) noLam 100 Tryz.f26 [.sl 0 1 0 0 m none] [.row false m 1 (rowB b) 5] (packK 1)
    = bif decide ((m : Int) > (2000 : Int)) then needs [decide ((2000 : Int) ≤ (m : Int)), decide ((m : Int) ≤ (m : Int)), u8, u4, decide (pk u0 u1 u11 (4 : Int) = (3 : Int)), u2, u8, u4, u2, u2, u8, u4, decide (u11 ≤ dp u0 u1 u3), decide (dp u0 u1 u3 ≤ u16), u2, u2, u8, u4, decide (u11 ≤ dp u0 u1 u12), decide (dp u0 u1 u12 ≤ u16), u2, u2, u8, u4, decide (u11 ≤ dp u0 u1 u6), decide (dp u0 u1 u6 ≤ (1073741824 : Int)), u2] (bif pk u0 u1 (dp u0 u1 u6) (3 : Int) == u11 then Res.out .ret [AV.own u9 (4 : Nat)] [u5, AB.row true (4 : Nat) u10 (fun q ↦ [Value.string (bif Nat.blt q u15 then bif Nat.blt q u10 then bif Nat.blt q u9 then dt u0 u1 u3 else dt u0 u1 u12 else dt u0 u1 u6 else dt u0 u1 u3), Value.int .u32 (bif Nat.blt q u15 then bif Nat.blt q u10 then bif Nat.blt q u9 then ds u0 u1 u3 else ds u0 u1 u12 else ds u0 u1 u6 else ds u0 u1 u3)]) (27 : Nat)] else Res.out .ret [AV.own u9 u15] [u5, AB.row true u15 u10 (fun q ↦ [Value.string (bif Nat.blt q u10 then bif Nat.blt q u9 then dt u0 u1 u3 else dt u0 u1 u12 else dt u0 u1 u6), Value.int .u32 (bif Nat.blt q u10 then bif Nat.blt q u9 then ds u0 u1 u3 else ds u0 u1 u12 else ds u0 u1 u6)]) (27 : Nat)]) else needs [u8, u14, decide (pk m u1 u11 (4 : Int) = (3 : Int)), u2, u8, u14, u2, u2, u8, u14, decide (u11 ≤ dp m u1 u3), decide (dp m u1 u3 ≤ u16), u2, u2, u8, u14, decide (u11 ≤ dp m u1 u13), decide (dp m u1 u13 ≤ u16), u2, u2, u8, u14, decide (u11 ≤ dp m u1 u7), decide (dp m u1 u7 ≤ (1073741824 : Int)), u2] (bif pk m u1 (dp m u1 u7) (3 : Int) == u11 then Res.out .ret [AV.own u9 (4 : Nat)] [u5, AB.row true (4 : Nat) u10 (fun q ↦ [Value.string (bif Nat.blt q u15 then bif Nat.blt q u10 then bif Nat.blt q u9 then dt m u1 u3 else dt m u1 u13 else dt m u1 u7 else dt m u1 u3), Value.int .u32 (bif Nat.blt q u15 then bif Nat.blt q u10 then bif Nat.blt q u9 then ds m u1 u3 else ds m u1 u13 else ds m u1 u7 else ds m u1 u3)]) (27 : Nat)] else Res.out .ret [AV.own u9 u15] [u5, AB.row true u15 u10 (fun q ↦ [Value.string (bif Nat.blt q u10 then bif Nat.blt q u9 then dt m u1 u3 else dt m u1 u13 else dt m u1 u7), Value.int .u32 (bif Nat.blt q u10 then bif Nat.blt q u9 then ds m u1 u3 else ds m u1 u13 else ds m u1 u7)]) (27 : Nat)]) := by
  subst hu6 hu12 hu7 hu5 hu4 hu0 hu16 hu15 hu14 hu13 hu11 hu10 hu9 hu8 hu3 hu2 hu1
  kernel_rfl
theorem treeDS3 (dt : Nat → (Nat → Int) → Int → ByteArray) (ds dp : Nat → (Nat → Int) → Int → Int) (pk : Nat → (Nat → Int) → Int → Int → Int) (m : Nat) (b : Nat → Int) : type_of% (treeDS3_h dt ds dp pk m b _ rfl _ rfl _ rfl _ rfl _ rfl _ rfl _ rfl _ rfl _ rfl _ rfl _ rfl _ rfl _ rfl _ rfl _ rfl _ rfl _ rfl) := treeDS3_h dt ds dp pk m b _ rfl _ rfl _ rfl _ rfl _ rfl _ rfl _ rfl _ rfl _ rfl _ rfl _ rfl _ rfl _ rfl _ rfl _ rfl _ rfl _ rfl

theorem treeDSn (q : Option Addr) (c : Nat) (g : Nat → List Value) : execF Tryz.prog gmPk0 noLam 100 Tryz.f26 [.v (.slice q 0 c)] [.row false 0 1 g 5] (packK 1)
    = Res.out .ret [AV.own 1 (0 : Nat)] [AB.row false (0 : Nat) (1 : Nat) g 5, AB.row true (0 : Nat) (2 : Nat) (fun _ ↦ []) (27 : Nat)] := by kernel_rfl

end Go.Proofs.YtcadinbahmliiaaGreatDoor

/- What is drawn: entries. Conditions: bytes. -/
namespace Go.Proofs.YtcadinbahmliiaaGreatDoor
open Go.RowKit
set_option maxRecDepth 100000

def dsSel {α : Type} (x0 x1 x2 : α) (n : Int) (d : Bool) (j : Nat) : α :=
  if n = 1 then (bif d then (bif Nat.blt j 1 then x0 else x0) else x0)
  else if n = 2 then (bif d then (bif Nat.blt j 2 then bif Nat.blt j 1 then x0 else x1 else x0) else bif Nat.blt j 1 then x0 else x1)
  else bif d then (bif Nat.blt j 3 then bif Nat.blt j 2 then bif Nat.blt j 1 then x0 else x1 else x2 else x0) else bif Nat.blt j 2 then bif Nat.blt j 1 then x0 else x1 else x2
noncomputable def dsQp (l : Nat) (b : Nat → Int) (n : Int) : Int := if n = 1 then eyP l b 1 else if n = 2 then eyP l b (eyP l b 1) else eyP l b (eyP l b (eyP l b 1))
noncomputable def dsD (l : Nat) (b : Nat → Int) (n : Int) : Bool := pkV l b (dsQp l b n) 3 == 0
noncomputable def dsN (l : Nat) (b : Nat → Int) (n : Int) : Nat := if n = 0 then 0 else bif dsD l b n then n.toNat + 1 else n.toNat
noncomputable def dsT (l : Nat) (b : Nat → Int) (n : Int) : Nat → ByteArray := dsSel (eyT l b 1) (eyT l b (eyP l b 1)) (eyT l b (eyP l b (eyP l b 1))) n (dsD l b n)
noncomputable def dsS (l : Nat) (b : Nat → Int) (n : Int) : Nat → Int := dsSel (eyS l b 1) (eyS l b (eyP l b 1)) (eyS l b (eyP l b (eyP l b 1))) n (dsD l b n)
noncomputable def bdN (m : Nat) (b : Nat → Int) : Nat := if m = 0 then 0 else dsN (lnB m) b (pkV (lnB m) b 0 4)
noncomputable def bdT (m : Nat) (b : Nat → Int) : Nat → ByteArray := dsT (lnB m) b (pkV (lnB m) b 0 4)
noncomputable def bdC (m : Nat) (b : Nat → Int) : Nat → Int := dsS (lnB m) b (pkV (lnB m) b 0 4)
theorem bdN_le (m : Nat) (b : Nat → Int) : bdN m b ≤ 4 := by
  unfold bdN dsN
  have := pkV_lt (lnB m) b 0 (n := 4) (by omega)
  have := pkV_nn (lnB m) b 0 4
  split
  · omega
  · split
    · omega
    · cases dsD (lnB m) b (pkV (lnB m) b 0 4) with
      | true => simp only [cond_true]; omega
      | false => simp only [cond_false]; omega
def frE (k : Nat) (ft : Nat → ByteArray) (fc : Nat → Int) : FR := { val := .own 0 k, new := [.row true k 2 (rowE ft fc) 27] }
theorem gmDS_ok (q : Int) : GamOk Tryz.prog (gmDS eyT eyS eyP pkV q) := ext_ok (ext_ok g0_ok (ok_pickJ _ _)) ok_entry
theorem ok_drBs : SpecOk Tryz.prog 26 (specR md_co (FdrO fun m b => frE (bdN m b) (bdT m b) (bdC m b))) := by
  refine draw_ok Tryz.func26 rfl (fun m b h0 hm hb => ⟨_, gmDS_ok (pkV (lnB m) b 0 4), ?_⟩) fun q c g b => ⟨_, gmPk0_ok, ?_⟩
  · have e : bdN m b = dsN (lnB m) b (pkV (lnB m) b 0 4) := by unfold bdN; rw [if_neg (by omega)]
    have q0 := pkV_nn (lnB m) b 0 4
    have q1 := pkV_lt (lnB m) b 0 (n := 4) (by omega)
    have p1 := eyP_in (lnB m) b 1
    have p2 := eyP_in (lnB m) b (eyP (lnB m) b 1)
    have p3 := eyP_in (lnB m) b (eyP (lnB m) b (eyP (lnB m) b 1))
    rw [e, bdT, bdC]
    generalize hq : pkV (lnB m) b 0 4 = q at q0 q1 ⊢
    rcases (by omega : q = 0 ∨ q = 1 ∨ q = 2 ∨ q = 3) with rfl | rfl | rfl | rfl
    · rw [treeDS0, itB_row]
      refine good_ln (fun e1 hc => ?_) fun e1 hc => ?_
      · rw [e1] at hq ⊢
        rw [show Int.toNat ((2000 : Int) - 0) = 2000 from rfl]
        exact ⟨by simp only [ob_cons, ob_nil, and_true, decide_eq_true_eq, hb, true_and]; omega, good_out ⟨_, rfl, rfl, .cons (ABeq.refl _) (.cons (ABeq.row fun j hj => absurd hj (Nat.not_lt_zero j)) .nil)⟩⟩
      · rw [e1] at hq ⊢
        exact ⟨by simp only [ob_cons, ob_nil, and_true, decide_eq_true_eq, hb, true_and]; omega, good_out ⟨_, rfl, rfl, .cons (ABeq.refl _) (.cons (ABeq.row fun j hj => absurd hj (Nat.not_lt_zero j)) .nil)⟩⟩
    · rw [treeDS1, itB_row]
      refine good_ln (fun e1 hc => ?_) fun e1 hc => ?_
      all_goals
        rw [e1] at hq p1 p2 p3 ⊢
        try rw [show Int.toNat ((2000 : Int) - 0) = 2000 from rfl]
        refine ⟨by simp only [ob_cons, ob_nil, and_true, decide_eq_true_eq, hb, true_and]; omega, good_cond (fun c2 => good_out ⟨_, rfl, ?_, ?_⟩) fun c2 => good_out ⟨_, rfl, ?_, ?_⟩⟩
        · rw [dsN, show dsD _ b 1 = true from c2]; rfl
        · show Hsim _ [_, .row true (dsN _ b _) 2 (rowE (dsT _ b _) (dsS _ b _)) _]; rw [dsN, dsT, dsS, show dsD _ b 1 = true from c2]; exact Hsim.refl _
        · rw [dsN, show dsD _ b 1 = false from c2]; rfl
        · show Hsim _ [_, .row true (dsN _ b _) 2 (rowE (dsT _ b _) (dsS _ b _)) _]; rw [dsN, dsT, dsS, show dsD _ b 1 = false from c2]; exact Hsim.refl _
    · rw [treeDS2, itB_row]
      refine good_ln (fun e1 hc => ?_) fun e1 hc => ?_
      all_goals
        rw [e1] at hq p1 p2 p3 ⊢
        try rw [show Int.toNat ((2000 : Int) - 0) = 2000 from rfl]
        refine ⟨by simp only [ob_cons, ob_nil, and_true, decide_eq_true_eq, hb, true_and]; omega, good_cond (fun c2 => good_out ⟨_, rfl, ?_, ?_⟩) fun c2 => good_out ⟨_, rfl, ?_, ?_⟩⟩
        · rw [dsN, show dsD _ b 2 = true from c2]; rfl
        · show Hsim _ [_, .row true (dsN _ b _) 2 (rowE (dsT _ b _) (dsS _ b _)) _]; rw [dsN, dsT, dsS, show dsD _ b 2 = true from c2]; exact Hsim.refl _
        · rw [dsN, show dsD _ b 2 = false from c2]; rfl
        · show Hsim _ [_, .row true (dsN _ b _) 2 (rowE (dsT _ b _) (dsS _ b _)) _]; rw [dsN, dsT, dsS, show dsD _ b 2 = false from c2]; exact Hsim.refl _
    · rw [treeDS3, itB_row]
      refine good_ln (fun e1 hc => ?_) fun e1 hc => ?_
      all_goals
        rw [e1] at hq p1 p2 p3 ⊢
        try rw [show Int.toNat ((2000 : Int) - 0) = 2000 from rfl]
        refine ⟨by simp only [ob_cons, ob_nil, and_true, decide_eq_true_eq, hb, true_and]; omega, good_cond (fun c2 => good_out ⟨_, rfl, ?_, ?_⟩) fun c2 => good_out ⟨_, rfl, ?_, ?_⟩⟩
        · rw [dsN, show dsD _ b 3 = true from c2]; rfl
        · show Hsim _ [_, .row true (dsN _ b _) 2 (rowE (dsT _ b _) (dsS _ b _)) _]; rw [dsN, dsT, dsS, show dsD _ b 3 = true from c2]; exact Hsim.refl _
        · rw [dsN, show dsD _ b 3 = false from c2]; rfl
        · show Hsim _ [_, .row true (dsN _ b _) 2 (rowE (dsT _ b _) (dsS _ b _)) _]; rw [dsN, dsT, dsS, show dsD _ b 3 = false from c2]; exact Hsim.refl _
  · rw [treeDSn]
    exact good_out ⟨_, rfl, rfl, .cons (ABeq.refl _) (.cons (ABeq.row fun j hj => absurd hj (Nat.not_lt_zero j)) .nil)⟩

end Go.Proofs.YtcadinbahmliiaaGreatDoor

/- The laws' marks on entries: trees. Conditions: entries. -/
namespace Go.Proofs.YtcadinbahmliiaaGreatDoor
open Go.RowKit
set_option maxRecDepth 100000

end Go.Proofs.YtcadinbahmliiaaGreatDoor

/- The laws' helpers on lists of wheels: trees. Conditions: a list of wheels. -/
namespace Go.Proofs.YtcadinbahmliiaaGreatDoor
open Go.RowKit
set_option maxRecDepth 100000

end Go.Proofs.YtcadinbahmliiaaGreatDoor

/- The laws' helpers on lists of wheels. Conditions: those that the words name. -/
namespace Go.Proofs.YtcadinbahmliiaaGreatDoor
open Go.RowKit
set_option maxRecDepth 100000

end Go.Proofs.YtcadinbahmliiaaGreatDoor

/- The laws' helpers on lists of entries: trees. Conditions: entries. -/
namespace Go.Proofs.YtcadinbahmliiaaGreatDoor
open Go.RowKit
set_option maxRecDepth 100000

abbrev hpQE (m : Nat) (ft : Nat → ByteArray) (fc : Nat → Int) (gt : Nat → ByteArray) (gc : Nat → Int) : List AB := [.row false m 2 (rowE ft fc) 27, .row false m 2 (rowE gt gc) 27]
end Go.Proofs.YtcadinbahmliiaaGreatDoor

/- The laws' helpers on lists of entries: their words. Conditions: those that the words name. -/
namespace Go.Proofs.YtcadinbahmliiaaGreatDoor
open Go.RowKit
set_option maxRecDepth 100000

def sameE (m : Nat) (ft : Nat → ByteArray) (fc : Nat → Int) (gt : Nat → ByteArray) (gc : Nat → Int) : Bool := (List.range m).all fun j => eqB (ft j) (gt j) && (fc j == gc j)
theorem sameE_self (m : Nat) (ft : Nat → ByteArray) (fc : Nat → Int) : sameE m ft fc ft fc = true := List.all_eq_true.2 fun j _ => by rw [eqB_self, beq_self_eq_true]; rfl
def F_eqES : List SA → Option FR
  | [.row m g, .row m2 g2] => some { val := .v (.bool true), obl := [Nat.beq m2 m, allE m g, allE m g2, sameE m (itT g) (itC g) (itT g2) (itC g2), decide (m ≤ 2 ^ 40)] }
  | _ => none
def md_eqES : List Md := [.rd 2 27, .rd 2 27]
end Go.Proofs.YtcadinbahmliiaaGreatDoor

/- The laws' marks on entries: their words. Conditions: entries; small marks. -/
namespace Go.Proofs.YtcadinbahmliiaaGreatDoor
open Go.RowKit
set_option maxRecDepth 100000

end Go.Proofs.YtcadinbahmliiaaGreatDoor

/- The laws' marks on entries: contracts. Conditions: entries; small marks. -/
namespace Go.Proofs.YtcadinbahmliiaaGreatDoor
open Go.RowKit
set_option maxRecDepth 100000

end Go.Proofs.YtcadinbahmliiaaGreatDoor

/- The laws' helpers on lists of wheels: their table. Conditions: a list of wheels. -/
namespace Go.Proofs.YtcadinbahmliiaaGreatDoor
open Go.RowKit

end Go.Proofs.YtcadinbahmliiaaGreatDoor

/- The laws on sorted entries: trees. Conditions: bytes; entries. -/
namespace Go.Proofs.YtcadinbahmliiaaGreatDoor
open Go.RowKit
set_option maxRecDepth 100000

def FbiY (L : Nat → (Nat → ByteArray) → (Nat → Int) → List (ByteArray × Int)) : List SA → Option FR
  | [.row m g] => some { val := .tup [.sl 0 2 0 0 (L m (itT g) (itC g)).length (some (L m (itT g) (itC g)).length), .v (.bool true)], new := [.row true (L m (itT g) (itC g)).length 2 (rowE (eT (L m (itT g) (itC g))) (eC (L m (itT g) (itC g)))) 27], obl := [allE m g, Nat.blt 0 (L m (itT g) (itC g)).length] }
  | _ => none
def FbiN (L : Nat → (Nat → ByteArray) → (Nat → Int) → List (ByteArray × Int)) : List AV → List AB → Option QRd
  | [.own 0 m], [.row true m' 2 g _] => some { val := .tup [.v (.slice none 0 0), .v (.bool (!decide (m > 50)))], obl := [Nat.ble m m', allE m' g, Nat.beq (L m (itT g) (itC g)).length 0] }
  | [.v (.slice none 0 0)], _ => some { val := .tup [.v (.slice none 0 0), .v (.bool true)], obl := [] }
  | _, _ => none
end Go.Proofs.YtcadinbahmliiaaGreatDoor

/- The abstract machine, 29: words for more than one loop. No conditions. -/
namespace Go.Proofs.YtcadinbahmliiaaGreatDoor
open Go.RowKit

def addL (id : Nat) (S : Sum) (Λ : Nat → Option Sum) : Nat → Option Sum := fun j => bif Nat.beq j id then some S else Λ j
theorem lamAddC {P : Program} {m0 id : Nat} {S : Sum} {c cc : Code} {Λ : Nat → Option Sum} (h : codeAt id cc = [.block id (.loop c)]) (hS : SumOk P m0 (.block id (.loop c)) S) (hΛ : LamOk P m0 Λ cc) : LamOk P m0 (addL id S Λ) cc := by
  intro j S' hj b hb
  unfold addL at hj
  cases hjb : Nat.beq j id with
  | false =>
    rw [hjb] at hj
    exact hΛ j S' hj b hb
  | true =>
    rw [hjb] at hj
    cases hj
    rw [Nat.eq_of_beq_eq_true hjb] at hb
    rw [h] at hb
    simp at hb
    subst hb
    exact hS

end Go.Proofs.YtcadinbahmliiaaGreatDoor

/- FnSort: trees. Conditions: bytes. -/
namespace Go.Proofs.YtcadinbahmliiaaGreatDoor
open Go.RowKit
set_option maxRecDepth 100000

abbrev lvSe : Ex → List Nat := lv3 [0, 1, 5] [] [4]
theorem rndSe_h (m : Nat) (ft : Nat → ByteArray) (fc : Nat → Int) (gt : Nat → ByteArray) (gc : Nat → Int) (i : Nat) (u0 : _) (hu0 : [AB.row false m 2 (rowE ft fc) 27, AB.row false m 2 (rowE gt gc) 27] = u0) (u2 : _) (hu2 : (↑i : Int) = u2) (u3 : _) (hu3 : (0 : Nat) = u3) (u1 : _) (hu1 : (u3 + Int.toNat u2) = u1) : execC Tryz.prog g0 100 noLam (loopAt 0 Tryz.f27) (mkT 0 26 ((lvSe .normal).zip [.sl 0 2 0 0 m none, .sl 1 2 0 0 m none, .v (i64 i)])) (hpQE m ft fc gt gc) (leafV 26 lvSe 2)
    = bif decide (u2 < (m : Int)) then needs [decide (u2 < (m : Int)), decide (u3 + Int.toNat u2 < m), decide (u2 < (m : Int)), decide (u3 + Int.toNat u2 < m)] (bif !(eqB (ft u1) (gt u1) && (fc u1 == gc u1 && true)) then Res.out .ret [AV.v (.bool false)] u0 else Res.out .normal [AV.sl u3 (2 : Nat) u3 u3 m none, AV.sl 1 (2 : Nat) u3 u3 m none, AV.v (.int .i64 (IntKind.wrap .i64 (u2 + (1 : Int))))] u0) else Res.out (Ex.exit u3) [] u0 := by
  subst hu1 hu3 hu2 hu0
  kernel_rfl
theorem rndSe (m : Nat) (ft : Nat → ByteArray) (fc : Nat → Int) (gt : Nat → ByteArray) (gc : Nat → Int) (i : Nat) : type_of% (rndSe_h m ft fc gt gc i _ rfl _ rfl _ rfl _ rfl) := rndSe_h m ft fc gt gc i _ rfl _ rfl _ rfl _ rfl

noncomputable abbrev lamSe (m : Nat) (ft : Nat → ByteArray) (fc : Nat → Int) (gt : Nat → ByteArray) (gc : Nat → Int) : Nat → Option Sum := oneL 0 (atS 26 (lvSe .normal) 2 [.sl 0 2 0 0 m none, .sl 1 2 0 0 m none, .v (i64 (0 : Nat))] (hpQE m ft fc gt gc) (fun K => K .normal (mkT 0 26 []) (hpQE m ft fc gt gc)))
theorem treeSe_h (m : Nat) (ft : Nat → ByteArray) (fc : Nat → Int) (gt : Nat → ByteArray) (gc : Nat → Int) (u0 : _) (hu0 : [AB.row false m 2 (rowE ft fc) 27, AB.row false m 2 (rowE gt gc) 27] = u0) (u1 : _) (hu1 : [AV.sl 0 (2 : Nat) (0 : Nat) (0 : Nat) m none, AV.sl 1 (2 : Nat) (0 : Nat) (0 : Nat) m none, AV.v (.int .i64 0)] = u1) : execF Tryz.prog g0 (lamSe m ft fc gt gc) 100 Tryz.f27 [.sl 0 2 0 0 m none, .sl 1 2 0 0 m none] (hpQE m ft fc gt gc) (packK 2)
    = bif (m : Int) != (m : Int) then Res.out .ret [AV.v (.bool false)] u0 else needs [chk (u1 = u1 ∧ Hsim u0 (hpQE m ft fc gt gc))] (Res.out .ret [AV.v (.bool true)] u0) := by
  subst hu1 hu0
  kernel_rfl
theorem treeSe (m : Nat) (ft : Nat → ByteArray) (fc : Nat → Int) (gt : Nat → ByteArray) (gc : Nat → Int) : type_of% (treeSe_h m ft fc gt gc _ rfl _ rfl) := treeSe_h m ft fc gt gc _ rfl _ rfl

noncomputable abbrev fSo : Func := Tryz.f7
abbrev lvSoA : Ex → List Nat := lv3 [3, 4, 8, 9, 10] [3, 4, 8, 9] [2]
abbrev lvSoB : Ex → List Nat := lv3 [3, 4, 8, 9, 11] [4, 8, 9] [2]
abbrev lvSoC : Ex → List Nat := lv3 [3, 4, 8, 9, 11, 12, 13] [3, 4, 8, 9, 11, 12] [2]
abbrev hpSo (m : Nat) (b : Nat → Int) (k : Nat) (ft : Nat → ByteArray) (fc : Nat → Int) (n : Nat) (gt : Nat → ByteArray) (gc : Nat → Int) (x : Nat) (ht : Nat → ByteArray) (hc : Nat → Int) : List AB := [.row false m 1 (rowB b) 5, .row true k 2 (rowE ft fc) 27, .row true n 2 (rowE gt gc) 27, .row true x 2 (rowE ht hc) 27]
def gmSoR (er : ByteArray → Int → Bool) : Gam := ext g0 13 (specR [.val] (FerO er))
theorem rndSoA_h (er : ByteArray → Int → Bool) (m : Nat) (b : Nat → Int) (k : Nat) (ft : Nat → ByteArray) (fc : Nat → Int) (n : Nat) (gt : Nat → ByteArray) (gc : Nat → Int) (x : Nat) (ht : Nat → ByteArray) (hc : Nat → Int) (i : Nat) (u5 : _) (hu5 : (AB.row false m 1 (rowB b) 5) = u5) (u6 : _) (hu6 : (↑i : Int) = u6) (u7 : _) (hu7 : (0 : Nat) = u7) (u8 : _) (hu8 : (2 : Nat) = u8) (u9 : _) (hu9 : [AV.v (.bool false)] = u9) (u10 : _) (hu10 : (IntKind.wrap .i64 (u6 - (1 : Int))) = u10) (u0 : _) (hu0 : [decide (u6 < (↑n : Int)), decide (u7 + Int.toNat u6 < n), decide ((0 : Int) ≤ IntKind.wrap .i64 (u6 - (1 : Int))), decide (IntKind.wrap .i64 (u6 - (1 : Int)) < (↑n : Int)), decide (u7 + Int.toNat u10 < n)] = u0) (u1 : _) (hu1 : [u5, AB.row true k u8 (rowE ft fc) 27, AB.row true n u8 (rowE gt gc) 27, AB.row true x u8 (rowE ht hc) 27] = u1) (u2 : _) (hu2 : [AV.own 1 k, AV.sl u8 u8 u7 u7 n (some n), AV.sl 3 u8 u7 u7 x (some x), AV.v (.bool true), AV.v (.int .i64 (IntKind.wrap .i64 (u6 + (1 : Int))))] = u2) (u3 : _) (hu3 : (u7 + Int.toNat u10) = u3) (u4 : _) (hu4 : (u7 + Int.toNat u6) = u4) : execC Tryz.prog (gmSoR er) 100 noLam (loopAt 0 fSo) (mkT 0 151 ((lvSoA .normal).zip [.own 1 k, .sl 2 2 0 0 n (some n), .sl 3 2 0 0 x (some x), .v (.bool true), .v (i64 i)])) (hpSo m b k ft fc n gt gc x ht hc) (leafV 151 lvSoA 1)
    = bif decide (u6 < (↑n : Int)) then needs [decide (u6 < (↑n : Int)), decide (u7 + Int.toNat u6 < n)] (bif !er (gt u4) (gc u4) then Res.out .ret u9 [u5] else bif decide (u6 > (0 : Int)) then needs u0 (bif decide (gc u4 < gc u3) then Res.out .ret u9 [u5] else needs u0 (bif gc u4 == gc u3 then needs u0 (bif lessB (gt u4) (gt u3) || eqB (gt u4) (gt u3) then Res.out .ret u9 [u5] else Res.out .normal u2 u1) else Res.out .normal u2 u1)) else Res.out .normal u2 u1) else Res.out (Ex.exit u7) [AV.own 1 k, AV.sl u8 u8 u7 u7 n (some n), AV.sl 3 u8 u7 u7 x (some x), AV.v (.bool true)] u1 := by
  subst hu4 hu3 hu2 hu1 hu0 hu10 hu9 hu8 hu7 hu6 hu5
  kernel_rfl
theorem rndSoA (er : ByteArray → Int → Bool) (m : Nat) (b : Nat → Int) (k : Nat) (ft : Nat → ByteArray) (fc : Nat → Int) (n : Nat) (gt : Nat → ByteArray) (gc : Nat → Int) (x : Nat) (ht : Nat → ByteArray) (hc : Nat → Int) (i : Nat) : type_of% (rndSoA_h er m b k ft fc n gt gc x ht hc i _ rfl _ rfl _ rfl _ rfl _ rfl _ rfl _ rfl _ rfl _ rfl _ rfl _ rfl) := rndSoA_h er m b k ft fc n gt gc x ht hc i _ rfl _ rfl _ rfl _ rfl _ rfl _ rfl _ rfl _ rfl _ rfl _ rfl _ rfl

theorem rndSoC_h (er : ByteArray → Int → Bool) (m : Nat) (b : Nat → Int) (k : Nat) (ft : Nat → ByteArray) (fc : Nat → Int) (n : Nat) (gt : Nat → ByteArray) (gc : Nat → Int) (x : Nat) (ht : Nat → ByteArray) (hc : Nat → Int) (i : Nat) (f : Bool) (q : Nat) (u0 : _) (hu0 : [AB.row false m 1 (rowB b) 5, AB.row true k 2 (rowE ft fc) 27, AB.row true n 2 (rowE gt gc) 27, AB.row true x 2 (rowE ht hc) 27] = u0) (u1 : _) (hu1 : (AV.sl 2 (2 : Nat) (0 : Nat) (0 : Nat) n (some n)) = u1) (u2 : _) (hu2 : (AV.sl 3 (2 : Nat) (0 : Nat) (0 : Nat) x (some x)) = u2) (u4 : _) (hu4 : (AV.v (.int .i64 (↑i : Int))) = u4) (u5 : _) (hu5 : (AV.v (.bool true)) = u5) (u6 : _) (hu6 : (↑q : Int) = u6) (u3 : _) (hu3 : (AV.v (.int .i64 (IntKind.wrap .i64 (u6 + (1 : Int))))) = u3) : execC Tryz.prog (gmSoR er) 100 noLam (loopAt 4 fSo) (mkT 0 151 ((lvSoC .normal).zip [.own 1 k, .sl 2 2 0 0 n (some n), .sl 3 2 0 0 x (some x), .v (.bool true), .v (i64 i), .v (.bool f), .v (i64 q)])) (hpSo m b k ft fc n gt gc x ht hc) (leafV 151 lvSoC 1)
    = bif decide (u6 < (↑n : Int)) then bif f then Res.out .normal [AV.own 1 k, u1, u2, u5, u4, u5, u3] u0 else needs [decide (u6 < (↑n : Int)), decide ((0 : Nat) + Int.toNat u6 < n), decide ((↑i : Int) < (↑k : Int)), decide (Int.toNat (↑i : Int) < k)] (Res.out .normal [AV.own 1 k, u1, u2, u5, u4, AV.v (.bool (eqB (gt ((0 : Nat) + Int.toNat u6)) (ft (Int.toNat (↑i : Int))) && (gc ((0 : Nat) + Int.toNat u6) == fc (Int.toNat (↑i : Int)) && true))), u3] u0) else Res.out (Ex.exit (4 : Nat)) [AV.own 1 k, u1, u2, u5, u4, AV.v (.bool f)] u0 := by
  subst hu3 hu6 hu5 hu4 hu2 hu1 hu0
  kernel_rfl
theorem rndSoC (er : ByteArray → Int → Bool) (m : Nat) (b : Nat → Int) (k : Nat) (ft : Nat → ByteArray) (fc : Nat → Int) (n : Nat) (gt : Nat → ByteArray) (gc : Nat → Int) (x : Nat) (ht : Nat → ByteArray) (hc : Nat → Int) (i : Nat) (f : Bool) (q : Nat) : type_of% (rndSoC_h er m b k ft fc n gt gc x ht hc i f q _ rfl _ rfl _ rfl _ rfl _ rfl _ rfl _ rfl) := rndSoC_h er m b k ft fc n gt gc x ht hc i f q _ rfl _ rfl _ rfl _ rfl _ rfl _ rfl _ rfl

end Go.Proofs.YtcadinbahmliiaaGreatDoor

/- FnSort: its helper, trees of its loops and of the whole. Conditions: bytes. -/
namespace Go.Proofs.YtcadinbahmliiaaGreatDoor
open Go.RowKit
set_option maxRecDepth 100000

theorem sumSe (m : Nat) (ft : Nat → ByteArray) (fc : Nat → Int) (gt : Nat → ByteArray) (gc : Nat → Int) (hm : m ≤ 2 ^ 40) (hs : sameE m ft fc gt gc = true) :
    SumOk Tryz.prog 2 (.block 0 (.loop (loopAt 0 Tryz.f27))) (atS 26 (lvSe .normal) 2 [.sl 0 2 0 0 m none, .sl 1 2 0 0 m none, .v (i64 (0 : Nat))] (hpQE m ft fc gt gc) (fun K => K .normal (mkT 0 26 []) (hpQE m ft fc gt gc))) := by
  refine for_at g0_ok (n := 100) (m := 2) (lv := lvSe) (fun i => [.sl 0 2 0 0 m none, .sl 1 2 0 0 m none, .v (i64 (i : Nat))]) (fun _ => hpQE m ft fc gt gc) (fun _ => True) m (fun _ => noLam) (lv3_ris rfl rfl rfl) (Nat.le_refl _) trivial fun K Q hk i hi him => ⟨noLam_ok _ _ _, ?_⟩
  rw [rndSe]
  refine good_cond (fun c1 => ?_) fun c1 => ?_
  · have c1 := of_decide_eq_true c1
    have c1' : i < m := by omega
    simp only [Int.toNat_natCast, Nat.zero_add]
    rw [wr_in (x := (i : Int) + 1) (by omega)]
    have e := List.all_eq_true.1 hs i (List.mem_range.2 c1')
    rw [Bool.and_eq_true] at e
    rw [e.1, e.2]
    exact good_needs (by simp only [ob_cons, ob_nil, and_true, decide_eq_true_eq]; omega) (good_out ⟨i + 1, ⟨rfl, c1', trivial⟩, rfl, Hsim.refl _⟩)
  · have c1 := of_decide_eq_false c1
    have : i = m := by omega
    subst this
    refine good_out ⟨_, Hsim.refl _, ?_⟩
    rw [if_pos rfl]
    exact hk
theorem ok_smE : SpecOk Tryz.prog 27 (specR md_eqES F_eqES) := by
  refine specR_hr g0_ok Tryz.func27 rfl fun sas fr hF ho => ?_
  unfold F_eqES at hF
  split at hF
  · rename_i m g m2 g2
    cases hF
    simp only [ob_cons] at ho
    obtain ⟨h0, h1, h2, h3, h4, _⟩ := ho
    have h0 := Nat.eq_of_beq_eq_true h0
    subst h0
    have hm := of_decide_eq_true h4
    refine ⟨hpQE m2 (itT g) (itC g) (itT g2) (itC g2), lamSe m2 (itT g) (itC g) (itT g2) (itC g2), 100, .cons (ABeq.row fun j hj => allE_get h1 j hj) (.cons (ABeq.row fun j hj => allE_get h2 j hj) .nil), lam1 (by kernel_rfl) (sumSe m2 (itT g) (itC g) (itT g2) (itC g2) hm h3), ?_⟩
    show GoodQ (execF Tryz.prog g0 (lamSe m2 (itT g) (itC g) (itT g2) (itC g2)) 100 Tryz.f27 [.sl 0 2 0 0 m2 none, .sl 1 2 0 0 m2 none] (hpQE m2 (itT g) (itC g) (itT g2) (itC g2)) (packK 2)) _
    rw [treeSe, bne_self_eq_false]
    refine good_needs (by simp only [ob_cons, ob_nil, and_true]; exact chk_of ⟨trivial, Hsim.refl _⟩) (good_out ⟨_, rfl, rfl, .cons (ABeq.row fun j hj => (allE_get h1 j hj).symm) (.cons (ABeq.row fun j hj => (allE_get h2 j hj).symm) .nil)⟩)
  · cases hF

noncomputable abbrev lamSoC (m : Nat) (b : Nat → Int) (k : Nat) (ft : Nat → ByteArray) (fc : Nat → Int) (n : Nat) (gt : Nat → ByteArray) (gc : Nat → Int) (x : Nat) (ht : Nat → ByteArray) (hc : Nat → Int) (i : Nat) (f f2 : Bool) : Nat → Option Sum := oneL 4 (atS 151 (lvSoC .normal) 1 [.own 1 k, .sl 2 2 0 0 n (some n), .sl 3 2 0 0 x (some x), .v (.bool true), .v (i64 i), .v (.bool f), .v (i64 (0 : Nat))] (hpSo m b k ft fc n gt gc x ht hc) (fun K => K .normal (mkT 0 151 [(3, .own 1 k), (4, .sl 2 2 0 0 n (some n)), (8, .sl 3 2 0 0 x (some x)), (9, .v (.bool true)), (11, .v (i64 i)), (12, .v (.bool f2))]) (hpSo m b k ft fc n gt gc x ht hc)))
theorem rndSoB_h (er : ByteArray → Int → Bool) (m : Nat) (b : Nat → Int) (k : Nat) (ft : Nat → ByteArray) (fc : Nat → Int) (n : Nat) (gt : Nat → ByteArray) (gc : Nat → Int) (x : Nat) (ht : Nat → ByteArray) (hc : Nat → Int) (i : Nat) (f f2 : Bool) (u3 : _) (hu3 : (AB.row false m 1 (rowB b) 5) = u3) (u4 : _) (hu4 : (2 : Nat) = u4) (u5 : _) (hu5 : (↑i : Int) = u5) (u6 : _) (hu6 : (AV.v (.bool true)) = u6) (u7 : _) (hu7 : (0 : Nat) = u7) (u8 : _) (hu8 : (AB.row true n u4 (rowE gt gc) 27) = u8) (u9 : _) (hu9 : (AB.row true x u4 (rowE ht hc) 27) = u9) (u0 : _) (hu0 : [u3, AB.row true k u4 (rowE ft fc) 27, u8, u9] = u0) (u1 : _) (hu1 : (AV.sl u4 u4 u7 u7 n (some n)) = u1) (u2 : _) (hu2 : (AV.sl 3 u4 u7 u7 x (some x)) = u2) : execC Tryz.prog (gmSoR er) 100 (lamSoC m b k ft fc n gt gc x ht hc i f f2) (loopAt 2 fSo) (mkT 0 151 ((lvSoB .normal).zip [.own 1 k, .sl 2 2 0 0 n (some n), .sl 3 2 0 0 x (some x), .v (.bool true), .v (i64 i)])) (hpSo m b k ft fc n gt gc x ht hc) (leafV 151 lvSoB 1)
    = bif decide (u5 < (↑k : Int)) then needs [decide (u5 < (↑k : Int)), decide (Int.toNat u5 < k), chk ([AV.own 1 k, u1, u2, u6, AV.v (.int .i64 u5), AV.v (.bool !er (ft (Int.toNat u5)) (fc (Int.toNat u5))), AV.v (.int .i64 0)] = [AV.own 1 k, u1, u2, u6, AV.v (.int .i64 u5), AV.v (.bool f), AV.v (.int .i64 0)] ∧ Hsim u0 (hpSo m b k ft fc n gt gc x ht hc))] (bif !f2 then Res.out .ret [AV.v (.bool false)] [u3] else Res.out .normal [AV.own 1 k, u1, u2, u6, AV.v (.int .i64 (IntKind.wrap .i64 (u5 + (1 : Int))))] u0) else Res.out (Ex.exit u4) [AV.sl 1 u4 u7 u7 n (some n), AV.sl u4 u4 u7 u7 x (some x), u6] [u3, u8, u9] := by
  subst hu2 hu1 hu0 hu9 hu8 hu7 hu6 hu5 hu4 hu3
  kernel_rfl
theorem rndSoB (er : ByteArray → Int → Bool) (m : Nat) (b : Nat → Int) (k : Nat) (ft : Nat → ByteArray) (fc : Nat → Int) (n : Nat) (gt : Nat → ByteArray) (gc : Nat → Int) (x : Nat) (ht : Nat → ByteArray) (hc : Nat → Int) (i : Nat) (f f2 : Bool) : type_of% (rndSoB_h er m b k ft fc n gt gc x ht hc i f f2 _ rfl _ rfl _ rfl _ rfl _ rfl _ rfl _ rfl _ rfl _ rfl _ rfl) := rndSoB_h er m b k ft fc n gt gc x ht hc i f f2 _ rfl _ rfl _ rfl _ rfl _ rfl _ rfl _ rfl _ rfl _ rfl _ rfl

theorem rndSoE (er : ByteArray → Int → Bool) (m : Nat) (b : Nat → Int) (k : Nat) (ft : Nat → ByteArray) (fc : Nat → Int) (n : Nat) (gt : Nat → ByteArray) (gc : Nat → Int) (x : Nat) (ht : Nat → ByteArray) (hc : Nat → Int) (i : Nat) : execC Tryz.prog (gmSoR er) 100 (oneL 4 errS) (loopAt 2 fSo) (mkT 0 151 ((lvSoB .normal).zip [.own 1 k, .sl 2 2 0 0 n (some n), .sl 3 2 0 0 x (some x), .v (.bool true), .v (i64 i)])) (hpSo m b k ft fc n gt gc x ht hc) (leafV 151 lvSoB 1)
    = bif decide ((↑i : Int) < (↑k : Int)) then needs [decide ((↑i : Int) < (↑k : Int)), decide (Int.toNat (↑i : Int) < k)] Res.err else Res.out (Ex.exit (2 : Nat)) [AV.sl 1 (2 : Nat) (0 : Nat) (0 : Nat) n (some n), AV.sl 2 (2 : Nat) (0 : Nat) (0 : Nat) x (some x), AV.v (.bool true)] [AB.row false m 1 (rowB b) 5, AB.row true n 2 (rowE gt gc) 27, AB.row true x 2 (rowE ht hc) 27] := by kernel_rfl

noncomputable abbrev lamSo (m : Nat) (b : Nat → Int) (k : Nat) (ft : Nat → ByteArray) (fc : Nat → Int) (n : Nat) (gt : Nat → ByteArray) (gc : Nat → Int) (x : Nat) (ht : Nat → ByteArray) (hc : Nat → Int) : Nat → Option Sum := addL 0 (atS 151 (lvSoA .normal) 1 [.own 1 k, .sl 2 2 0 0 n (some n), .sl 3 2 0 0 x (some x), .v (.bool true), .v (i64 (0 : Nat))] (hpSo m b k ft fc n gt gc x ht hc) (fun K => K .normal (mkT 0 151 [(3, .own 1 k), (4, .sl 2 2 0 0 n (some n)), (8, .sl 3 2 0 0 x (some x)), (9, .v (.bool true))]) (hpSo m b k ft fc n gt gc x ht hc)))
  (oneL 2 (atS 151 (lvSoB .normal) 1 [.own 1 k, .sl 2 2 0 0 n (some n), .sl 3 2 0 0 x (some x), .v (.bool true), .v (i64 (0 : Nat))] (hpSo m b k ft fc n gt gc x ht hc) (fun K => K .normal (mkT 0 151 [(4, .sl 1 2 0 0 n (some n)), (8, .sl 2 2 0 0 x (some x)), (9, .v (.bool true))]) [.row false m 1 (rowB b) 5, .row true n 2 (rowE gt gc) 27, .row true x 2 (rowE ht hc) 27])))
def gmSo (dk : Nat → (Nat → Int) → Nat) (dt : Nat → (Nat → Int) → Nat → ByteArray) (dc : Nat → (Nat → Int) → Nat → Int) (er : ByteArray → Int → Bool) (L : Nat → (Nat → ByteArray) → (Nat → Int) → List (ByteArray × Int)) : Gam :=
  ext (ext (ext (ext (ext g0 26 (specR md_co (FdrO fun m b => frE (dk m b) (dt m b) (dc m b)))) 22 (specR md_bs (FbiY L))) 20 (specR md_bs (FbsO L))) 27 (specR md_eqES F_eqES)) 13 (specR [.val] (FerO er))
theorem lawSo_h (dk : Nat → (Nat → Int) → Nat) (dt : Nat → (Nat → Int) → Nat → ByteArray) (dc : Nat → (Nat → Int) → Nat → Int) (er : ByteArray → Int → Bool) (L : Nat → (Nat → ByteArray) → (Nat → Int) → List (ByteArray × Int)) (m : Nat) (b : Nat → Int) (k : Nat) (ft : Nat → ByteArray) (fc : Nat → Int) (n : Nat) (gt : Nat → ByteArray) (gc : Nat → Int) (x : Nat) (ht : Nat → ByteArray) (hc : Nat → Int) (u6 : _) (hu6 : (AB.row false m 1 (rowB b) 5) = u6) (u7 : _) (hu7 : (0 : Nat) = u7) (u11 : _) (hu11 : (AV.v (.bool true)) = u11) (u13 : _) (hu13 : (2 : Nat) = u13) (u15 : _) (hu15 : 27 = u15) (u0 : _) (hu0 : (itB fun q ↦ rowB b (u7 + q)) = u0) (u2 : _) (hu2 : [AV.own 1 k, AV.sl u13 u13 u7 u7 n (some n), AV.sl 3 u13 u7 u7 x (some x), u11, AV.v (.int .i64 0)] = u2) (u9 : _) (hu9 : (rowE (dt m u0) (dc m u0)) = u9) (u16 : _) (hu16 : (dk m u0) = u16) (u1 : _) (hu1 : (L u16 (itT u9) (itC u9)) = u1) (u3 : _) (hu3 : (List.length u1) = u3) (u4 : _) (hu4 : (itC fun q ↦ rowE (eT u1) (eC u1) (u7 + q)) = u4) (u5 : _) (hu5 : (itT fun q ↦ rowE (eT u1) (eC u1) (u7 + q)) = u5) (u8 : _) (hu8 : (rowE (eT u1) (eC u1)) = u8) (u10 : _) (hu10 : (allE u3 fun q ↦ rowE (eT u1) (eC u1) (u7 + q)) = u10) (u12 : _) (hu12 : (List.length (L u3 u5 u4)) = u12) (u14 : _) (hu14 : (Nat.ble (u7 + List.length u1) u3) = u14) (u17 : _) (hu17 : (decide (List.length u1 ≤ (1099511627776 : Nat))) = u17) : execF Tryz.prog (gmSo dk dt dc er L) (lamSo m b k ft fc n gt gc x ht hc) 100 fSo [.sl 0 1 0 0 m none] [.row false m 1 (rowB b) 5] (packK 1)
    = bif decide ((m : Int) > (1048576 : Int)) then Res.out .ret [u11] [u6] else needs [Nat.ble (u7 + m) m, okB m fun q ↦ rowB b (u7 + q), decide (m ≤ (2097152 : Nat)), Nat.ble u16 u16, allE u16 u9, Nat.blt u7 u3, Nat.ble u16 u16, allE u16 u9] (bif !true == !decide (dk m u0 > (50 : Nat)) then bif true == !decide (dk m u0 > (50 : Nat)) then needs [u14, Nat.ble u3 u3, Nat.beq u3 u3, u10, allE u3 u8, sameE u3 u5 u4 (itT u8) (itC u8), u17] (Res.out .ret [u11] [u6]) else Res.out .ret [AV.v (.bool false)] [u6] else needs [u14, Nat.ble u3 u3, Nat.beq u3 u3, u10, allE u3 u8, sameE u3 u5 u4 (itT u8) (itC u8), u17, u14, u10, Nat.blt u7 u12, chk ([AV.own 1 u16, AV.sl u13 u13 u7 u7 u3 (some u3), AV.sl 3 u13 u7 u7 u12 (some u12), u11, AV.v (.int .i64 0)] = u2 ∧ Hsim [u6, AB.row true u16 u13 u9 u15, AB.row true u3 u13 u8 u15, AB.row true u12 u13 (rowE (eT (L u3 u5 u4)) (eC (L u3 u5 u4))) u15] (hpSo m b k ft fc n gt gc x ht hc)), chk (u2 = u2 ∧ Hsim [u6, AB.row true k u13 (rowE ft fc) u15, AB.row true n u13 (rowE gt gc) u15, AB.row true x u13 (rowE ht hc) u15] (hpSo m b k ft fc n gt gc x ht hc)), Nat.ble (u7 + x) x, Nat.ble (u7 + n) n, Nat.beq n x, allE x fun q ↦ rowE ht hc (u7 + q), allE x fun q ↦ rowE gt gc (u7 + q), sameE x (itT fun q ↦ rowE ht hc (u7 + q)) (itC fun q ↦ rowE ht hc (u7 + q)) (itT fun q ↦ rowE gt gc (u7 + q)) (itC fun q ↦ rowE gt gc (u7 + q)), decide (x ≤ (1099511627776 : Nat))] (Res.out .ret [u11] [u6])) := by
  subst hu17 hu14 hu12 hu10 hu8 hu5 hu4 hu3 hu1 hu16 hu9 hu2 hu0 hu15 hu13 hu11 hu7 hu6
  kernel_rfl
theorem lawSo (dk : Nat → (Nat → Int) → Nat) (dt : Nat → (Nat → Int) → Nat → ByteArray) (dc : Nat → (Nat → Int) → Nat → Int) (er : ByteArray → Int → Bool) (L : Nat → (Nat → ByteArray) → (Nat → Int) → List (ByteArray × Int)) (m : Nat) (b : Nat → Int) (k : Nat) (ft : Nat → ByteArray) (fc : Nat → Int) (n : Nat) (gt : Nat → ByteArray) (gc : Nat → Int) (x : Nat) (ht : Nat → ByteArray) (hc : Nat → Int) : type_of% (lawSo_h dk dt dc er L m b k ft fc n gt gc x ht hc _ rfl _ rfl _ rfl _ rfl _ rfl _ rfl _ rfl _ rfl _ rfl _ rfl _ rfl _ rfl _ rfl _ rfl _ rfl _ rfl _ rfl _ rfl) := lawSo_h dk dt dc er L m b k ft fc n gt gc x ht hc _ rfl _ rfl _ rfl _ rfl _ rfl _ rfl _ rfl _ rfl _ rfl _ rfl _ rfl _ rfl _ rfl _ rfl _ rfl _ rfl _ rfl _ rfl

end Go.Proofs.YtcadinbahmliiaaGreatDoor

/- A map whose keys are entries: what a key reads as; what a walk over the map has met. No conditions. -/
namespace Go.Proofs.YtcadinbahmliiaaGreatDoor
open Go.RowKit
open Go.Maps (Keyed KeysOf)
set_option maxRecDepth 100000

def encE (x : ByteArray × Int) : Value := .agg #[.string x.1, .int .u32 x.2]
theorem encE_inj {x y : ByteArray × Int} (h : encE x = encE y) : x = y := by
  simp only [encE, Value.agg.injEq, Array.mk.injEq, List.cons.injEq, Value.string.injEq, Value.int.injEq, and_true, true_and] at h
  exact Prod.ext h.1 h.2

noncomputable def fsE : Array Field := match Tryz.prog.underlying 27 with
  | some (.struct fs) => fs
  | _ => #[]
theorem und_E : Tryz.prog.underlying 27 = some (.struct fsE) := by kernel_rfl
noncomputable def fE0 : Field := fsE.toList.getD 0 default
noncomputable def fE1 : Field := fsE.toList.getD 1 default
theorem fsE_l : fsE.toList = [fE0, fE1] := by kernel_rfl
theorem fsE_ok : fsE.all (·.name != "_") = true := by kernel_rfl
theorem fE0_o : fE0.offset = 0 := by kernel_rfl
theorem fE1_o : fE1.offset = 1 := by kernel_rfl
theorem fE0_u : Tryz.prog.underlying fE0.type = some .string := by kernel_rfl
theorem fE1_u : Tryz.prog.underlying fE1.type = some (.int .u32) := by kernel_rfl
theorem fE0_c : Tryz.prog.cellsOf fE0.type = 1 := by kernel_rfl
theorem fE1_c : Tryz.prog.cellsOf fE1.type = 1 := by kernel_rfl
theorem cells_E : Tryz.prog.cellsOf 27 = 2 := by kernel_rfl
theorem wide_E : (match Tryz.prog.underlying 27 with | some (.array _ _) | some (.struct _) => true | _ => false) = true := by kernel_rfl
theorem laidOut_P : laidOutB Tryz.prog = true := by kernel_rfl
theorem keyed_E : Keyed Tryz.prog 27 := Keyed.of_law (deep_law_laid laidOut_P (m := 2) (by omega) (of_decide_eq_true (by kernel_rfl)) (by kernel_rfl) wide_E)
theorem types_succ : ∃ m, Tryz.prog.types.size = m + 1 := ⟨Tryz.prog.types.size - 1, by
  have : Nat.ble 1 Tryz.prog.types.size = true := by kernel_rfl
  have := Nat.le_of_ble_eq_true this
  omega⟩
theorem keyType_E : Tryz.prog.keyType 27 = true := by kernel_rfl

def litE (x : ByteArray × Int) : Lit := .string (keyBytes [.string x.1.data.toList, .int .u32 x.2])
theorem keyOf_E {x : ByteArray × Int} (hs : x.1.size ≤ maxLen) (hc : (Lit.int .u32 x.2).wf = true) : keyOf Tryz.prog 27 (encE x) = some (litE x) := by
  obtain ⟨m, hm⟩ := types_succ
  unfold keyOf
  simp only [und_E]
  rw [if_pos (by simp [keyType_E, Value.formed, encE, und_E, cells_E]), hm]
  unfold Program.keyLits
  simp only [und_E, Value.cells, encE]
  rw [if_pos ⟨by rw [cells_E]; rfl, fsE_ok⟩, fsE_l, List.mapM_cons, List.mapM_cons, List.mapM_nil]
  simp [fE0_o, fE1_o, fE0_c, fE1_c, Program.keyLits, fE0_u, fE1_u, hs, hc, litE]
theorem keyOf_E_inv {key : Value} {kl : Lit} (h : keyOf Tryz.prog 27 key = some kl) : ∃ x, key = encE x := by
  obtain ⟨⟨xs⟩, L, rfl, hl, _⟩ := keyOf_top wide_E h
  unfold Program.keyLits at hl
  simp only [und_E] at hl
  split at hl
  · rename_i hc
    have h2 : xs.length = 2 := by
      have := hc.1
      rwa [cells_E] at this
    match xs, h2 with
    | [a, b], _ =>
      rw [fsE_l, List.mapM_cons, List.mapM_cons, List.mapM_nil] at hl
      simp only [fE0_o, fE1_o, fE0_c, fE1_c, List.drop_zero, List.drop_succ_cons, List.take_succ_cons, List.take_zero, Option.map_eq_some_iff, Option.bind_eq_bind, Option.bind_eq_some_iff] at hl
      obtain ⟨_, ⟨la, ha, _, ⟨lb, hb, _⟩, _⟩, _⟩ := hl
      obtain ⟨s, h1, _⟩ := keyLits_string' fE0_u ha
      obtain ⟨c, h3, _⟩ := keyLits_int' fE1_u hb
      cases h1
      cases h3
      exact ⟨(s, c), rfl⟩
  · cases hl

def hasE (D : DataW Unit) (x : ByteArray × Int) : Prop := ∃ l, keyOf Tryz.prog 27 (encE x) = some l ∧ Maps.has D l = true
def CollE (D0 : DataW Unit) (left : Lit → Bool) (ss : List (ByteArray × Int)) : Prop := ss.Nodup ∧ ∀ x, x ∈ ss ↔ ∃ l, keyOf Tryz.prog 27 (encE x) = some l ∧ Maps.has D0 l = true ∧ left l = false
theorem CollE.start (D0 : DataW Unit) : CollE D0 (Maps.has D0) [] := ⟨List.nodup_nil, fun x => ⟨fun h => (List.not_mem_nil h).elim, fun ⟨l, _, h1, h2⟩ => by rw [h1] at h2; cases h2⟩⟩
theorem CollE.step {D0 : DataW Unit} {left : Lit → Bool} {ss : List (ByteArray × Int)} (h : CollE D0 left ss) {x : ByteArray × Int} {kl : Lit} {y : DataW Unit} (hk : keyOf Tryz.prog 27 (encE x) = some kl) (hlk : left kl = true) (hat : ∀ zd, D0.atKey kl zd = y) : CollE D0 (fun z => left z && !z.sameKey kl) (ss ++ [x]) := by
  have hhas : Maps.has D0 kl = true := Maps.has_true_of_atKey hat
  have hnew : x ∉ ss := fun hx => by
    obtain ⟨l, h1, _, h3⟩ := (h.2 x).1 hx
    rw [hk] at h1
    cases h1
    rw [hlk] at h3
    cases h3
  refine ⟨List.nodup_append.2 ⟨h.1, by simp, fun a ha b hb => by simp at hb; subst hb; exact fun e => hnew (e ▸ ha)⟩, fun z => ?_⟩
  by_cases hz : z = x
  · subst hz
    refine ⟨fun _ => ⟨kl, hk, hhas, ?_⟩, fun _ => by simp⟩
    show (left kl && !kl.sameKey kl) = false
    rw [WideAt.sameKey_self (keyed_E.key hk), Bool.not_true, Bool.and_false]
  · rw [List.mem_append, List.mem_singleton]
    constructor
    · rintro (hz' | hz')
      · obtain ⟨l, h1, h2, h3⟩ := (h.2 z).1 hz'
        exact ⟨l, h1, h2, by
          show (left l && !l.sameKey kl) = false
          rw [h3, Bool.false_and]⟩
      · exact (hz hz').elim
    · rintro ⟨l, h1, h2, h3⟩
      refine .inl ((h.2 z).2 ⟨l, h1, h2, ?_⟩)
      have hne : l.sameKey kl = false := by
        cases hs : l.sameKey kl with
        | false => rfl
        | true =>
          have e := WideAt.sameKey_eq hs
          subst e
          exact (hz (encE_inj (keyed_E.inj h1 hk))).elim
      replace h3 : (left l && !l.sameKey kl) = false := h3
      rw [hne, Bool.not_false, Bool.and_true] at h3
      exact h3
theorem CollE.done {D0 : DataW Unit} {left : Lit → Bool} {ss : List (ByteArray × Int)} (h : CollE D0 left ss) (hl : ∀ kl, left kl = false) : ss.Nodup ∧ ∀ x, x ∈ ss ↔ hasE D0 x :=
  ⟨h.1, fun x => by
    rw [h.2 x]
    exact ⟨fun ⟨l, h1, h2, _⟩ => ⟨l, h1, h2⟩, fun ⟨l, h1, h2⟩ => ⟨l, h1, h2, hl l⟩⟩⟩

theorem hasE_put {D : DataW Unit} {es : List (Lit × DataW Unit)} (hD : D = .map es) {x : ByteArray × Int} {kl : Lit} {d : DataW Unit} (hk : keyOf Tryz.prog 27 (encE x) = some kl) (z : ByteArray × Int) : hasE (D.put kl d) z ↔ z = x ∨ hasE D z := by
  subst hD
  have key : ∀ l, Maps.has ((DataW.map es).put kl d) l = true → (∃ v, keyOf Tryz.prog 27 v = some l) → (l = kl ∨ Maps.has (.map es) l = true) := fun l h _ => by
    rw [DataW.put_eq, Maps.has_eq, List.any_eq_true] at h
    obtain ⟨p, hp, hs⟩ := h
    unfold ChangeMaps.putKey at hp
    rcases ChangeMaps.mem_insert_iff.1 hp with rfl | hp
    · exact .inl (WideAt.sameKey_eq hs).symm
    · rw [Maps.has_eq, List.any_eq_true]
      exact .inr ⟨p, (List.mem_filter.1 hp).1, hs⟩
  constructor
  · rintro ⟨l, h1, h2⟩
    rcases key l h2 ⟨_, h1⟩ with rfl | h3
    · exact .inl (encE_inj (keyed_E.inj h1 hk))
    · exact .inr ⟨l, h1, h3⟩
  · have self : Maps.has ((DataW.map es).put kl d) kl = true := by
      rw [DataW.put_eq, Maps.has_eq, List.any_eq_true]
      exact ⟨(kl, d), ChangeMaps.mem_insert_iff.2 (.inl rfl), WideAt.sameKey_self (keyed_E.key hk)⟩
    rintro (rfl | ⟨l, h1, h2⟩)
    · exact ⟨kl, hk, self⟩
    · by_cases e : l = kl
      · subst e
        exact ⟨l, h1, self⟩
      · refine ⟨l, h1, ?_⟩
        rw [Maps.has_eq, List.any_eq_true] at h2
        obtain ⟨p, hp, hs⟩ := h2
        rw [DataW.put_eq, Maps.has_eq, List.any_eq_true]
        refine ⟨p, ChangeMaps.mem_insert_iff.2 (.inr (List.mem_filter.2 ⟨hp, ?_⟩)), hs⟩
        have ep := WideAt.sameKey_eq hs
        exact (Maps.notKey_iff (keyed_E.key hk)).2 (by rw [ep]; exact e)
theorem hasE_nil (z : ByteArray × Int) : ¬ hasE (.map []) z := fun ⟨l, _, h⟩ => by
  rw [Maps.has_eq] at h
  cases h

end Go.Proofs.YtcadinbahmliiaaGreatDoor

/- slices.AppendSeq of entries: trees. No conditions. -/
namespace Go.Proofs.YtcadinbahmliiaaGreatDoor
open Go.RowKit
set_option maxRecDepth 100000

noncomputable abbrev fAq : Func := Tryz.f133
noncomputable def aqB : Code := fAq.body.getD .skip
noncomputable def aqP0 : Code := sqA aqB
noncomputable def aqP2 : Code := sqA (sqA (sqB aqB))
noncomputable def arA : Code → Code | .rangeFunc _ _ a _ => a | c => c
noncomputable def arB : Code → Code | .rangeFunc _ _ _ b => b | c => c
noncomputable def aqAs : Code := arA (blB (sqB (sqA (sqB aqB))))
noncomputable def aqBd : Code := arB (blB (sqB (sqA (sqB aqB))))
noncomputable def aqRest : Code := sqB (sqB aqB)
theorem bodyAq : fAq.body = some (nestL [aqP0] (.seq (.seq aqP2 (.block 0 (.rangeFunc (.tmp 6) #[7] aqAs aqBd))) aqRest)) := by kernel_rfl
abbrev fnKs (bm : Nat) : AV := .fn 90 [.v (.pointer (some ⟨bm, 0, none⟩))]
def TTaq (bm : Nat) : List AV := mkT 0 13 [(2, .ptr 0 0 0 0), (6, fnKs bm)]
def TLaq : List AV := mkT 0 13 [(2, .ptr 0 0 0 0)]
def hp0a : List AB := [.cells [.v (.slice none 0 0)] 41]
def hp1a (n : Nat) (ft : Nat → ByteArray) (fc : Nat → Int) : List AB := [.cells [.own 1 n] 41, .row true n 2 (rowE ft fc) 27]
theorem preAq (bm : Nat) : execL Tryz.prog g0 100 [aqP0, aqP2] ([.v (.slice none 0 0), fnKs bm] ++ List.replicate 11 (.v undef)) [] (leafK (lv3 [2, 6] [] []) 0) = .out .normal (TTaq bm) hp0a := by kernel_rfl
theorem rndAq0 (s : ByteArray) (c : Int) : execC Tryz.prog g0 100 noLam aqAs (parT [7] [.agg ⟨[.string s, .int .u32 c]⟩] TLaq) hp0a (andK Tryz.prog g0 100 aqBd 1)
    = Res.out .normal [AV.dead, AV.dead, AV.dead, AV.dead, AV.dead, AV.dead, AV.dead, AV.dead, AV.dead, AV.dead, AV.dead, AV.dead, AV.dead] [AB.cells [AV.own 1 (1 : Nat)] 41, AB.row true (1 : Nat) (2 : Nat) (fun _ ↦ [Value.string s, Value.int .u32 c]) (27 : Nat)] := by kernel_rfl

theorem rndAq1 (n : Nat) (ft : Nat → ByteArray) (fc : Nat → Int) (s : ByteArray) (c : Int) : execC Tryz.prog g0 100 noLam aqAs (parT [7] [.agg ⟨[.string s, .int .u32 c]⟩] TLaq) (hp1a n ft fc) (andK Tryz.prog g0 100 aqBd 1)
    = needs [Nat.ble n n, Nat.ble (n + (1 : Nat)) (549755813888 : Nat)] (Res.out .normal [AV.dead, AV.dead, AV.dead, AV.dead, AV.dead, AV.dead, AV.dead, AV.dead, AV.dead, AV.dead, AV.dead, AV.dead, AV.dead] [AB.cells [AV.own 1 (n + (1 : Nat))] 41, AB.row true (n + (1 : Nat)) (2 : Nat) (fun q ↦ [Value.string (bif Nat.blt q n then ft q else s), Value.int .u32 (bif Nat.blt q n then fc q else c)]) (27 : Nat)]) := by kernel_rfl

theorem endAq0 : behind Tryz.prog g0 100 fAq 0 aqRest (packK 0) .normal TLaq hp0a = .out .ret [.v (.slice none 0 0)] [] := by kernel_rfl
theorem endAq1 (n : Nat) (ft : Nat → ByteArray) (fc : Nat → Int) : behind Tryz.prog g0 100 fAq 0 aqRest (packK 0) .normal TLaq (hp1a n ft fc)
    = Res.out .ret [AV.own 0 n] [AB.row true n 2 (rowE ft fc) 27] := by kernel_rfl

end Go.Proofs.YtcadinbahmliiaaGreatDoor

/- maps.Keys of a map of entries: what its iterator gives. Conditions: the map stands. -/
namespace Go.Proofs.YtcadinbahmliiaaGreatDoor
open Go.RowKit
open Go.Maps (Keyed KeysOf)

set_option maxRecDepth 100000 in
set_option maxHeartbeats 4000000 in
theorem keys1_in {nn : Nat} (hn : 1 ≤ nn) (l Bm b n : Nat) (D0 : DataW Unit) (wk : World) (M : Nat → Prop) (J Jx : List (ByteArray × Int) → World → Prop)
    (hY : ∀ pre x W1, J pre W1 → pre.length < Maps.size D0 → YieldAt (wideR none) (nn - 1) Tryz.prog l #[encE x] W1 fun e W' => (e = .returned (.bool true) ∧ J (pre ++ [x]) W' ∧ keepW wk M W1 W') ∨ (e = .returned (.bool false) ∧ Jx (pre ++ [x]) W'))
    (W : World) (hJ : AbidesFrom W.heap.size J) (hm : W.cell? ⟨Bm, 0, none⟩ = some (.map (some b))) (hown : W.ownsMap Tryz.prog 27 (plainElem Tryz.prog 4) b n D0) (h0 : J [] W) :
    CallsIn (wideR none) nn Tryz.prog 90 #[.func (.yield l) #[] #[], .pointer (some ⟨Bm, 0, none⟩)] W fun e W' => (∃ v, e = .returned v) ∧ ((∃ ss, (ss.Nodup ∧ ∀ x, x ∈ ss ↔ hasE D0 x) ∧ J ss W') ∨ ∃ pre : List (ByteArray × Int), True ∧ Jx pre W') := by
  have tB : Tryz.prog.underlying 4 = some .bool := by kernel_rfl
  have tM : Tryz.prog.underlying 81 = some (.map 27 4) := by kernel_rfl
  have uB := run_underlying tB; have uM := run_underlying tM; have uE := run_underlying und_E
  have aE := Tryz.isAgg27; have zE := Tryz.sizeOf27; have vE := Tryz.zeroValue27
  have aM := Tryz.isAgg81; have zM := Tryz.sizeOf81
  have aB := Tryz.isAgg4; have zB := Tryz.sizeOf4; have vB := Tryz.zeroValue4
  have mixed := mixed
  have hro : Fence.wide.round = none := rfl
  simp only [wideR_none] at hY ⊢
  refine callsIn_of_wp Tryz.func90 rfl trivial ?_ rfl
  simp only [Tryz.ntmps90, List.size_toArray, List.length_cons, List.length_nil, Nat.reduceAdd, Nat.reduceSub, Array.replicate_succ, Array.replicate_zero, List.push_toArray, List.append_toArray, List.nil_append, List.cons_append]
  gi_wp2_with (first
    | (gi_at_range; refine wpListIn_range_own _ rfl _ 81 rfl 27 4 keyed_E tM _ b n _ rfl hown ?_; intro w0 hrg0 hg0 hs0)
    | gi_in)
  go_frame
  gi_loopw [] (fun wr => ∃ (left : Lit → Bool) (cnt : Nat) (ss : List (ByteArray × Int)), wr.ranges Tryz.prog 27 (plainElem Tryz.prog 4) b W.heap.size n D0 left cnt ∧ ss.length + cnt ≤ Maps.size D0 ∧ CollE D0 left ss ∧ J ss wr)
    (fun wr => wr.rangeLeft b W.heap.size)
  case atStart =>
    exact ⟨_, _, [], hrg0, by simp, CollE.start D0, hJ [] W w0 none h0 hg0 (fun r e => by cases e)⟩
  case round =>
    obtain ⟨left, cnt, ss, hrg, hcs, hC, hJs⟩ := hrel
    gi_wp2_with (first
      | (gi_at_next; refine wpListIn_next_ranges _ rfl _ rfl 27 keyed_E (plainElem Tryz.prog 4) encE id (fun key kl hk => keyOf_E_inv hk) (fun v _ _ => ⟨v, rfl⟩) b W.heap.size n _ _ _ rfl hrg ?_ ?_)
      | gi_in)
    · intro hc0 hl0
      gi_wp2
      go_end0
      exact ⟨⟨_, rfl⟩, .inl ⟨ss, hC.done hl0, hJs⟩⟩
    · intro s0 k0 c kl yd yp w2 cnt2 hkey hlk hv hat hrg2 hlt hg2 hs2 hen
      have hJ2 : J ss w2 := hJ ss wr w2 (some W.heap.size) hJs hg2 (fun r e => by cases e; exact ⟨Nat.le_refl _, hrg.iter_walk⟩)
      have eE : encE (s0, k0) = .agg #[.string s0, .int .u32 k0] := rfl
      simp only [eE] at hen ⊢
      clear hs2
      have hJ3 := hJ ss w2 (w2.alloc (.cells #[.string s0, .int .u32 k0] 27)) none hJ2 (World.grownBy_alloc _ _ _) (fun r e => by cases e)
      obtain ⟨fn, tmps, assign, body, hy, hR⟩ := hY ss (s0, k0) _ hJ3 (by omega)
      simp only [eE] at hy
      gi_wp2
      refine hR.mono ?_
      have hC2 := hC.step hkey hlk hat
      rintro e W3 (⟨rfl, hJ4, hk3⟩ | ⟨rfl, hJx3⟩)
      · gi_wp2
        have hrg3 := (hrg2.alloc _).of_walks hk3.2
        go_roundw
        case rel => exact ⟨_, cnt2, ss ++ [(s0, k0)], hrg3, by simp; omega, hC2, hJ4⟩
        case measure => rw [hrg3.left_eq, hrg.left_eq]; exact hlt
      · gi_wp2
        refine bodyPost_ret (results_none rfl _ _ _) rfl ?_
        exact ⟨⟨_, rfl⟩, .inr ⟨ss ++ [(s0, k0)], trivial, hJx3⟩⟩

theorem keys_stops {nn : Nat} (hn : 1 ≤ nn) (Bm b n : Nat) (D0 : DataW Unit) (w : World) (M : Nat → Prop) (hBm : Bm < w.heap.size) (hm : w.cell? ⟨Bm, 0, none⟩ = some (.map (some b))) (hown : w.ownsMap Tryz.prog 27 (plainElem Tryz.prog 4) b n D0) :
    SeqStopsK (wideR none) nn Tryz.prog 90 #[.pointer (some ⟨Bm, 0, none⟩)] (fun x => #[encE x]) (keepW w M) (fun ss => ss.Nodup ∧ ∀ x, x ∈ ss ↔ hasE D0 x) (fun _ => True) (Maps.size D0) w := fun l J Jx W hW hJ _ hY h0 => by
  have hown' : W.ownsMap Tryz.prog 27 (plainElem Tryz.prog 4) b n D0 := by
    have hbl := hown.lt
    obtain ⟨es, clock, hb, Ft, hs, hD⟩ := hown
    exact ⟨es, clock, (hW.block b hbl).trans hb, Ft, hs, hD⟩
  exact keys1_in hn l Bm b n D0 w M J Jx hY W hJ ((hW.cell (p := ⟨Bm, 0, none⟩) hBm).trans hm) hown' h0

end Go.Proofs.YtcadinbahmliiaaGreatDoor

/- slices.Collect of the keys of a map of entries: each key once. Conditions: the map stands. -/
namespace Go.Proofs.YtcadinbahmliiaaGreatDoor
open Go.RowKit
set_option maxRecDepth 100000

def hpa : List (ByteArray × Int) → List AB
  | [] => hp0a
  | x :: l => hp1a (x :: l).length (eT (x :: l)) (eC (x :: l))
theorem hpa_ne {L : List (ByteArray × Int)} (h : L ≠ []) : hpa L = hp1a L.length (eT L) (eC L) := by
  cases L with
  | nil => exact (h rfl).elim
  | cons => rfl
theorem eT_snoc (L : List (ByteArray × Int)) (x : ByteArray × Int) {q : Nat} (h : q < L.length + 1) : eT (L ++ [x]) q = (bif Nat.blt q L.length then eT L q else x.1) ∧ eC (L ++ [x]) q = bif Nat.blt q L.length then eC L q else x.2 := by
  simp only [eT, eC, List.getD_eq_getElem?_getD]
  cases hb : Nat.blt q L.length with
  | true =>
    rw [Nat.blt_eq] at hb
    rw [List.getElem?_append_left hb]
    exact ⟨rfl, rfl⟩
  | false =>
    have hb' : ¬ q < L.length := fun h => by rw [← Nat.blt_eq, hb] at h; cases h
    have : q = L.length := by omega
    subst this
    rw [List.getElem?_append_right (Nat.le_refl _), Nat.sub_self]
    exact ⟨rfl, rfl⟩
def KeysE (D0 : DataW Unit) (ss : List (ByteArray × Int)) : Prop := ss.Nodup ∧ ∀ x, x ∈ ss ↔ hasE D0 x
def qAq (D0 : DataW Unit) : Ex → List AV → List AB → Prop := fun _ l H' => ∃ ss, KeysE D0 ss ∧ ((ss = [] ∧ l = [.v (.slice none 0 0)] ∧ H' = []) ∨ (ss ≠ [] ∧ l = [.own 0 ss.length] ∧ H' = [.row true ss.length 2 (rowE (eT ss) (eC ss)) 27]))
structure MapAt (bm b n : Nat) (D0 : DataW Unit) (M : Nat → Prop) (w : World) : Prop where
  lt : bm < w.heap.size
  box : w.cell? ⟨bm, 0, none⟩ = some (.map (some b))
  own : w.ownsMap Tryz.prog 27 (plainElem Tryz.prog 4) b n D0
  no1 : ¬ M bm
  no2 : ¬ M b
theorem MapAt.fr {bm b n : Nat} {D0 : DataW Unit} {M : Nat → Prop} {w W : World} (h : MapAt bm b n D0 M w) (hf : Fr M w W) : bm < W.heap.size ∧ W.cell? ⟨bm, 0, none⟩ = some (.map (some b)) ∧ W.ownsMap Tryz.prog 27 (plainElem Tryz.prog 4) b n D0 := by
  refine ⟨Nat.lt_of_lt_of_le h.lt hf.size, ?_, ?_⟩
  · have := hf.block bm h.lt h.no1
    have hb := h.box
    simp only [World.cell?] at hb ⊢
    rw [this]
    exact hb
  · have hl := h.own.lt
    obtain ⟨es, clock, hb, F, hs, hD⟩ := h.own
    exact ⟨es, clock, (hf.block b hl h.no2).trans hb, F, hs, hD⟩
theorem roundAq {D0 : DataW Unit} (hN : Maps.size D0 ≤ 549755813888) (pre : List (ByteArray × Int)) (x : ByteArray × Int) (hl : pre.length < Maps.size D0) :
    (execC Tryz.prog g0 100 noLam aqAs (parT [7] [encE x] TLaq) (hpa pre) (andK Tryz.prog g0 100 aqBd 1)).ok (RoundJ (fun _ => True) (fun _ _ => False) hpa (fun _ => hpa) (pre ++ [x])) := by
  cases pre with
  | nil =>
    suffices h : GoodQ (execC Tryz.prog g0 100 noLam aqAs (parT [7] [.agg ⟨[.string x.1, .int .u32 x.2]⟩] TLaq) hp0a (andK Tryz.prog g0 100 aqBd 1)) (RoundJ (fun _ => True) (fun _ _ => False) hpa (fun _ => hpa) ([] ++ [x])) from h.out
    rw [rndAq0]
    refine good_out ⟨trivial, .cons (ABeq.refl _) (.cons (ABeq.row fun j hj => ?_) .nil)⟩
    have : j = 0 := by omega
    subst this
    rfl
  | cons y l =>
    suffices h : GoodQ (execC Tryz.prog g0 100 noLam aqAs (parT [7] [.agg ⟨[.string x.1, .int .u32 x.2]⟩] TLaq) (hp1a (y :: l).length (eT (y :: l)) (eC (y :: l))) (andK Tryz.prog g0 100 aqBd 1)) (RoundJ (fun _ => True) (fun _ _ => False) hpa (fun _ => hpa) ((y :: l) ++ [x])) from h.out
    rw [rndAq1]
    generalize hpre : y :: l = pre at *
    refine good_needs (by simp only [ob_cons, ob_nil, and_true, Nat.ble_eq]; omega) (good_out ⟨trivial, ?_⟩)
    rw [hpa_ne (by simp), List.length_append]
    refine .cons (ABeq.refl _) (.cons (ABeq.row fun j hj => ?_) .nil)
    obtain ⟨e1, e2⟩ := eT_snoc pre x hj
    simp only [rowE, e1, e2]
theorem run_aq {bm b n : Nat} {D0 : DataW Unit} (hN : Maps.size D0 ≤ 549755813888) (M : Nat → Prop) (vals : List Value) (w : World) (ν : Nu) (hI : MapAt bm b n D0 M w) (hM : ∀ k, w.heap.size ≤ k → M k) (hv : VRs ν [.v (.slice none 0 0), fnKs bm] vals) (hR : RH M ν (fun b => ([] : List AB).getD b .gone) w)
    (hdom : ∀ i b, ν i = some b → i < ([] : List AB).length) : Calls Tryz.prog 133 vals.toArray w (RetG (qAq D0) M ν w) := by
  refine calls_rangeI (α := ByteArray × Int) (n := 100) (nn := 1) g0_ok mixed enters Tryz.func133 bodyAq (by kernel_rfl) (by kernel_rfl) (by kernel_rfl) (by kernel_rfl) (by kernel_rfl) (lvp := lv3 [2, 6] [] []) (TT := TTaq bm) (HH := hp0a) (H0 := [])
    (encs := fun x => [encE x]) (S := KeysE D0) (Sp := fun _ => True) (N := Maps.size D0) ?_ (gf := 90) (cs := [.v (.pointer (some ⟨bm, 0, none⟩))]) (by kernel_rfl) TLaq (by kernel_rfl) (mask_less (live := [2]) (by kernel_rfl)) (fun _ => True) (fun _ _ => False) hpa (fun _ => hpa) rfl (fun i => .inl rfl)
    (fun args w => enters _ _ Tryz.func90 rfl args w) (fun M w _ => MapAt bm b n D0 M w) (fun M w ν W ν1 a1 lb hI hM hS hS1 hv => ?_) (fun _ => rfl) (fun p hp => by simp only [List.mem_singleton] at hp; subst hp; exact Nat.lt_of_lt_of_eq (by decide : 7 < 13) rfl) trivial (fun pre x _ hl => roundAq hN pre x hl) (fun xs hxs _ => ?_) (fun e pre hne hlv hsp => hlv.elim) M vals w ν hI hM hv hR hdom
  · show (execL Tryz.prog g0 100 [aqP0, aqP2] ([.v (.slice none 0 0), fnKs bm] ++ List.replicate 11 (.v undef)) [] (leafK (lv3 [2, 6] [] []) 0)).ok _
    rw [preAq]
    exact ⟨rfl, rfl, rfl⟩
  · match lb, hv with
    | [y], hv =>
      simp only [VRs, VR, and_true] at hv
      subst hv
      obtain ⟨h1, h2, h3⟩ := hI.fr hS.fr
      exact keys_stops (Nat.le_refl _) bm b n D0 W _ h1 h2 h3
  · cases xs with
    | nil =>
      show (behind Tryz.prog g0 100 fAq 0 aqRest (packK 0) .normal TLaq hp0a).ok (qAq D0)
      rw [endAq0]
      exact ⟨[], hxs, .inl ⟨rfl, rfl, rfl⟩⟩
    | cons y l =>
      show (behind Tryz.prog g0 100 fAq 0 aqRest (packK 0) .normal TLaq (hp1a (y :: l).length (eT (y :: l)) (eC (y :: l)))).ok (qAq D0)
      rw [endAq1]
      exact ⟨y :: l, hxs, .inr ⟨by simp, rfl, rfl⟩⟩

def OwnE (base : Nat) (v : Value) (ss : List (ByteArray × Int)) (W : World) : Prop :=
  (ss = [] ∧ v = .slice none 0 0) ∨ (ss ≠ [] ∧ ∃ (blk cap : Nat) (l : List Value), v = .slice (some ⟨blk, 0, none⟩) ss.length cap ∧ base ≤ blk ∧ W.heap[blk]? = some (.cells (List.toArray l) 27 (0, 0)) ∧ l.length = cap * 2 ∧ cap ≤ maxLen ∧ ss.length ≤ cap ∧ ∀ j, j < ss.length → ∀ k, k < 2 → l[j * 2 + k]? = (rowE (eT ss) (eC ss) j)[k]?)
theorem calls_aq {bm b n : Nat} {D0 : DataW Unit} (hN : Maps.size D0 ≤ 549755813888) (w : World) (hI : MapAt bm b n D0 (fun k => w.heap.size ≤ k) w) (htab : TabOk (fun k => w.heap.size ≤ k) w) :
    Calls Tryz.prog 133 #[.slice none 0 0, .func (.func 90) #[] #[.pointer (some ⟨bm, 0, none⟩)]] w fun e w' => ∃ v ss, e = .returned v ∧ KeysE D0 ss ∧ OwnE w.heap.size v ss w' ∧ Fr (fun k => w.heap.size ≤ k) w w' := by
  refine (run_aq hN (fun k => w.heap.size ≤ k) [.slice none 0 0, .func (.func 90) #[] #[.pointer (some ⟨bm, 0, none⟩)]] w (fun _ => none) hI (fun _ hk => hk) (by simp only [VRs, VR, and_true, true_and]; exact ⟨[_], rfl, by simp only [VRs, VR, and_true]⟩)
    ⟨fun i => trivial, fun i j b b' _ h => by simp [AB.wr] at h, fun i b h => by simp [AB.wr] at h, (fun i b h => by cases h), htab⟩ (fun i b h => by cases h)).mono ?_
  rintro e w' ⟨v, av, H', ν', rfl, ⟨ss, hss, hc⟩, hvr, hRH, hfr, _, _⟩
  refine ⟨v, ss, rfl, hss, ?_, hfr⟩
  rcases hc with ⟨rfl, h1, rfl⟩ | ⟨hne, h1, rfl⟩
  · simp only [List.cons.injEq, and_true] at h1
    subst h1
    simp only [VR] at hvr
    exact .inl ⟨rfl, hvr⟩
  · simp only [List.cons.injEq, and_true] at h1
    subst h1
    simp only [VR] at hvr
    obtain ⟨bb, e1, rfl⟩ := hvr
    refine .inr ⟨hne, ?_⟩
    rcases hRH.br 0 with ⟨h, _⟩ | ⟨bc, l, t', fz, e2, e3, h3, h4, h5⟩
    · cases h
    · rw [e1] at e2
      cases e2
      obtain ⟨rfl, h6, rfl, h7, h8⟩ := h3 rfl
      refine ⟨bb.n, bb.c, l, by rw [h6], hRH.own 0 bb rfl e1, e3, h7, h8, h4, fun j hj k hk => ?_⟩
      have := (h5 j hj).2 k hk
      rw [h6, Nat.zero_add] at this
      exact this

end Go.Proofs.YtcadinbahmliiaaGreatDoor

/- The program's BookSort: its pieces. Conditions: entries. -/
namespace Go.Proofs.YtcadinbahmliiaaGreatDoor
open Go.RowKit
set_option maxRecDepth 100000

noncomputable abbrev fBk : Func := Tryz.f22
noncomputable def kB : Code := fBk.body.getD .skip
noncomputable def klp : Code → Code | .loop c => c | c => c
noncomputable def kth : Code → Code | .cond _ a _ => a | c => c
noncomputable def kops : Code → Array Oper | .region _ o _ => o | _ => #[]
noncomputable def kR0 : Code := sqA kB
noncomputable def kR1 : Code := sqA (sqA (sqB kB))
noncomputable def kR2 : Code := kth (sqB (sqA (sqB kB)))
noncomputable def kO3 : Array Oper := kops (sqA (sqB (sqB kB)))
noncomputable def kR4 : Code := sqA (sqA (sqB (sqB (sqB kB))))
noncomputable def kL : Code := klp (blB (sqB (sqA (sqB (sqB (sqB kB))))))
noncomputable def kR5 : Code := sqA kL
noncomputable def kR6 : Code := sqA (blB (sqA (sqB (sqB kL))))
noncomputable def kR7 : Code := sqA (sqB (blB (sqA (sqB (sqB kL)))))
noncomputable def kO8 : Array Oper := kops (kth (sqB (sqB (blB (sqA (sqB (sqB kL)))))))
noncomputable def kR9 : Code := sqB (sqB (sqB kL))
noncomputable def kO10 : Array Oper := kops (sqA (sqB (sqB (sqB (sqB kB)))))
noncomputable def kRz : Code := sqB (sqB (sqB (sqB (sqB kB))))
theorem bodyBk : fBk.body = some (.seq kR0 (.seq (.seq kR1 (.cond (.tmp 10) kR2 .skip)) (.seq (.region 3 kO3 false) (.seq (.seq kR4 (.block 0 (.loop kL))) (.seq (.region 10 kO10 false) kRz))))) := by kernel_rfl
theorem loopBk : kL = .seq kR5 (.seq (.cond (.tmp 15) .skip (.exit 0)) (.seq (.block 1 (.seq kR6 (.seq kR7 (.cond (.tmp 19) (.region 8 kO8 false) .skip)))) kR9)) := by kernel_rfl
abbrev hpB (m : Nat) (ft : Nat → ByteArray) (fc : Nat → Int) : List AB := [.row false m 2 (rowE ft fc) 27]
abbrev hpB1 (m : Nat) (ft : Nat → ByteArray) (fc : Nat → Int) (i : Nat) : List AB := [.row false m 2 (rowE ft fc) 27, .cells [.v (.string (ft i)), .v (.int .u32 (fc i))] 27]
abbrev lsA (m : Nat) : AV := .sl 0 2 0 0 m none
def kT0 (m : Nat) : List AV := mkT 0 28 [(0, lsA m)]
def kT1 (m : Nat) (q : Bool) : List AV := mkT 0 28 [(0, lsA m), (10, .v (.bool q))]
def kT3 (m b : Nat) : List AV := mkT 0 28 [(0, lsA m), (4, .v (.map (some b)))]
def kT4 (m b i : Nat) : List AV := mkT 0 28 [(4, .v (.map (some b))), (12, lsA m), (13, .v (i64 m)), (14, .v (i64 i))]
def kT5 (m b i : Nat) (q : Bool) : List AV := mkT 0 28 [(4, .v (.map (some b))), (12, lsA m), (13, .v (i64 m)), (14, .v (i64 i)), (15, .v (.bool q))]
def kT6 (m b i : Nat) : List AV := mkT 0 28 [(4, .v (.map (some b))), (6, .ptr 1 0 0 0), (12, lsA m), (13, .v (i64 m)), (14, .v (i64 i))]
def kT7 (m b i : Nat) (q : Bool) : List AV := mkT 0 28 [(4, .v (.map (some b))), (6, .ptr 1 0 0 0), (12, lsA m), (13, .v (i64 m)), (14, .v (i64 i)), (19, .v (.bool q))]
def gmBk (er : ByteArray → Int → Bool) : Gam := ext g0 13 (specR [.val] (FerO er))
theorem trK0 (m : Nat) (ft : Nat → ByteArray) (fc : Nat → Int) : execC Tryz.prog g0 100 noLam kR0 ([lsA m] ++ List.replicate 27 (.v undef)) (hpB m ft fc) (leafK (lv3 [0] [] []) 1)
    = Res.out .normal [AV.sl 0 (2 : Nat) (0 : Nat) (0 : Nat) m none, AV.dead, AV.dead, AV.dead, AV.dead, AV.dead, AV.dead, AV.dead, AV.dead, AV.dead, AV.dead, AV.dead, AV.dead, AV.dead, AV.dead, AV.dead, AV.dead, AV.dead, AV.dead, AV.dead, AV.dead, AV.dead, AV.dead, AV.dead, AV.dead, AV.dead, AV.dead, AV.dead] [AB.row false m 2 (rowE ft fc) 27] := by kernel_rfl

theorem trK1 (m : Nat) (ft : Nat → ByteArray) (fc : Nat → Int) : execC Tryz.prog g0 100 noLam kR1 (kT0 m) (hpB m ft fc) (leafK (lv3 [0, 10] [] []) 1)
    = Res.out .normal [AV.sl 0 (2 : Nat) (0 : Nat) (0 : Nat) m none, AV.dead, AV.dead, AV.dead, AV.dead, AV.dead, AV.dead, AV.dead, AV.dead, AV.dead, AV.v (.bool (decide ((m : Int) > (50 : Int)))), AV.dead, AV.dead, AV.dead, AV.dead, AV.dead, AV.dead, AV.dead, AV.dead, AV.dead, AV.dead, AV.dead, AV.dead, AV.dead, AV.dead, AV.dead, AV.dead, AV.dead] [AB.row false m 2 (rowE ft fc) 27] := by kernel_rfl

theorem trK4 (m b : Nat) (ft : Nat → ByteArray) (fc : Nat → Int) : execC Tryz.prog g0 100 noLam kR4 (kT3 m b) (hpB m ft fc) (leafK (lv3 [4, 12, 13, 14] [] []) 1)
    = Res.out .normal [AV.dead, AV.dead, AV.dead, AV.dead, AV.v (Value.map (some b)), AV.dead, AV.dead, AV.dead, AV.dead, AV.dead, AV.dead, AV.dead, AV.sl 0 (2 : Nat) (0 : Nat) (0 : Nat) m none, AV.v (.int .i64 (m : Int)), AV.v (.int .i64 0), AV.dead, AV.dead, AV.dead, AV.dead, AV.dead, AV.dead, AV.dead, AV.dead, AV.dead, AV.dead, AV.dead, AV.dead, AV.dead] [AB.row false m 2 (rowE ft fc) 27] := by kernel_rfl

theorem trK5 (m b i : Nat) (ft : Nat → ByteArray) (fc : Nat → Int) : execC Tryz.prog g0 100 noLam kR5 (kT4 m b i) (hpB m ft fc) (leafK (lv3 [4, 12, 13, 14, 15] [] []) 1)
    = Res.out .normal [AV.dead, AV.dead, AV.dead, AV.dead, AV.v (Value.map (some b)), AV.dead, AV.dead, AV.dead, AV.dead, AV.dead, AV.dead, AV.dead, AV.sl 0 (2 : Nat) (0 : Nat) (0 : Nat) m none, AV.v (.int .i64 (m : Int)), AV.v (.int .i64 (↑i : Int)), AV.v (.bool (decide ((↑i : Int) < (m : Int)))), AV.dead, AV.dead, AV.dead, AV.dead, AV.dead, AV.dead, AV.dead, AV.dead, AV.dead, AV.dead, AV.dead, AV.dead] [AB.row false m 2 (rowE ft fc) 27] := by kernel_rfl

theorem trK6 (m b i : Nat) (q : Bool) (ft : Nat → ByteArray) (fc : Nat → Int) : execC Tryz.prog g0 100 noLam kR6 (kT5 m b i q) (hpB m ft fc) (leafK (lv3 [4, 6, 12, 13, 14] [] []) 1)
    = needs [decide ((↑i : Int) < (m : Int)), decide ((0 : Nat) + Int.toNat (↑i : Int) < m)] (Res.out .normal [AV.dead, AV.dead, AV.dead, AV.dead, AV.v (Value.map (some b)), AV.dead, AV.ptr (1 : Nat) (0 : Nat) (0 : Nat) (0 : Nat), AV.dead, AV.dead, AV.dead, AV.dead, AV.dead, AV.sl 0 (2 : Nat) (0 : Nat) (0 : Nat) m none, AV.v (.int .i64 (m : Int)), AV.v (.int .i64 (↑i : Int)), AV.dead, AV.dead, AV.dead, AV.dead, AV.dead, AV.dead, AV.dead, AV.dead, AV.dead, AV.dead, AV.dead, AV.dead, AV.dead] [AB.row false m 2 (rowE ft fc) 27, AB.cells [AV.v (.string (ft ((0 : Nat) + Int.toNat (↑i : Int)))), AV.v (.int .u32 (fc ((0 : Nat) + Int.toNat (↑i : Int))))] (27 : Nat)]) := by kernel_rfl

theorem trK7 (er : ByteArray → Int → Bool) (m b i : Nat) (ft : Nat → ByteArray) (fc : Nat → Int) : execC Tryz.prog (gmBk er) 100 noLam kR7 (kT6 m b i) (hpB1 m ft fc i) (leafK (lv3 [4, 6, 12, 13, 14, 19] [] []) 1)
    = Res.out .normal [AV.dead, AV.dead, AV.dead, AV.dead, AV.v (Value.map (some b)), AV.dead, AV.ptr (1 : Nat) (0 : Nat) (0 : Nat) (0 : Nat), AV.dead, AV.dead, AV.dead, AV.dead, AV.dead, AV.sl 0 (2 : Nat) (0 : Nat) (0 : Nat) m none, AV.v (.int .i64 (m : Int)), AV.v (.int .i64 (↑i : Int)), AV.dead, AV.dead, AV.dead, AV.dead, AV.v (.bool (er (ft i) (fc i))), AV.dead, AV.dead, AV.dead, AV.dead, AV.dead, AV.dead, AV.dead, AV.dead] [AB.row false m 2 (rowE ft fc) 27, AB.cells [AV.v (.string (ft i)), AV.v (.int .u32 (fc i))] 27] := by kernel_rfl

theorem trK9 (m b i : Nat) (q : Bool) (ft : Nat → ByteArray) (fc : Nat → Int) : execC Tryz.prog g0 100 noLam kR9 (kT7 m b i q) (hpB1 m ft fc i) (leafK (lv3 [4, 12, 13, 14] [] []) 1)
    = Res.out .normal [AV.dead, AV.dead, AV.dead, AV.dead, AV.v (Value.map (some b)), AV.dead, AV.dead, AV.dead, AV.dead, AV.dead, AV.dead, AV.dead, AV.sl 0 (2 : Nat) (0 : Nat) (0 : Nat) m none, AV.v (.int .i64 (m : Int)), AV.v (.int .i64 (IntKind.wrap .i64 ((↑i : Int) + (1 : Int)))), AV.dead, AV.dead, AV.dead, AV.dead, AV.dead, AV.dead, AV.dead, AV.dead, AV.dead, AV.dead, AV.dead, AV.dead, AV.dead] [AB.row false m 2 (rowE ft fc) 27] := by kernel_rfl

def kTz (x : AV) : List AV := mkT 0 28 [(7, x)]
theorem trKz (m n : Nat) (ft : Nat → ByteArray) (fc : Nat → Int) (gt : Nat → ByteArray) (gc : Nat → Int) : execC Tryz.prog g0 100 noLam kRz (kTz (.own 1 n)) [.row false m 2 (rowE ft fc) 27, .row true n 2 (rowE gt gc) 27] (finC Tryz.prog fBk fun av H' => .out .ret [av] H')
    = needs [decide ((↑n : Int) ≤ (↑n : Int)), decide ((↑n : Int) ≤ (↑n : Int)), Nat.ble n n] (Res.out .ret [AV.tup [AV.sl 1 (2 : Nat) (0 : Nat) (0 : Nat) (Int.toNat ((↑n : Int) - (0 : Int))) (some (Int.toNat ((↑n : Int) - (0 : Int)))), AV.v (.bool true)]] [AB.row false m 2 (rowE ft fc) 27, AB.row true n 2 (rowE gt gc) 27]) := by kernel_rfl

end Go.Proofs.YtcadinbahmliiaaGreatDoor

/- The program's BookSort: what its single operations do. No conditions. -/
namespace Go.Proofs.YtcadinbahmliiaaGreatDoor
open Go.RowKit
set_option maxRecDepth 100000

theorem op_value {nn : Nat} {P : Program} {ops : Array Oper} {Q : Exit → Act → World → Prop} {i : Nat} {o : Oper} {K : Act → World → Prop} {a : Act} {w w' : World} {v : Value} (ho : ops[i]? = some o) (hgu : o.guard = none) (hr : (execOp a.eval o).run P w = .ok (.value v) w') (hK : K (a.put o.dst v) w') : wpOpIn (wideR none) nn P ops Q i K a w := by
  unfold wpOpIn
  rw [ho]
  simp only
  rw [if_pos (by simp [Region.wanted, hgu])]
  refine ⟨fun _ _ => trivial, ?_⟩
  rw [show (o.semAt (wideR none).round a.eval).run P w = .ok (.value v) w' by rw [show (wideR none).round = none from rfl, Oper.semAt_none]; exact hr]
  exact hK
theorem op_skip {nn : Nat} {P : Program} {ops : Array Oper} {Q : Exit → Act → World → Prop} {i : Nat} {o : Oper} {K : Act → World → Prop} {a : Act} {w w' : World} (ho : ops[i]? = some o) (hgu : o.guard = none) (hr : (execOp a.eval o).run P w = .ok .skip w') (hK : K (a.put o.dst undef) w') : wpOpIn (wideR none) nn P ops Q i K a w := by
  unfold wpOpIn
  rw [ho]
  simp only
  rw [if_pos (by simp [Region.wanted, hgu])]
  refine ⟨fun _ _ => trivial, ?_⟩
  rw [show (o.semAt (wideR none).round a.eval).run P w = .ok .skip w' by rw [show (wideR none).round = none from rfl, Oper.semAt_none]; exact hr]
  exact hK
theorem op_call {nn : Nat} {P : Program} {ops : Array Oper} {Q : Exit → Act → World → Prop} {i : Nat} {o : Oper} {K : Act → World → Prop} {a : Act} {w w' : World} {f : FuncId} {args : Array Value} {R : Ending → World → Prop} (ho : ops[i]? = some o) (hgu : o.guard = none) (hr : (execOp a.eval o).run P w = .ok (.enter f args) w') (h : Calls P f args w' R)
    (hR : ∀ e W, R e W → ∃ b, e = .returned b ∧ K (a.put o.dst b) W) : wpOpIn (wideR none) nn P ops Q i K a w := by
  unfold wpOpIn
  rw [ho]
  simp only
  rw [if_pos (by simp [Region.wanted, hgu])]
  refine ⟨fun _ _ => trivial, ?_⟩
  rw [show (o.semAt (wideR none).round a.eval).run P w = .ok (.enter f args) w' by rw [show (wideR none).round = none from rfl, Oper.semAt_none]; exact hr]
  exact ⟨fun hdep => (by cases hdep), callsIn_wideR (h.mono fun e W he => by
    obtain ⟨b, rfl, hk⟩ := hR e W he
    exact hk)⟩

theorem pieceG {nn : Nat} {Γ : Gam} (hΓ : GamOk Tryz.prog Γ) {c : Code} {M : Nat → Prop} {w0 : World} {ν0 : Nu} (hM : ∀ k, w0.heap.size ≤ k → M k) {T : List AV} {H : List AB} {K : Kont} {Qr : Ex → List AV → List AB → Prop} {X : World} {A : Act} {ν : Nu} (hc : codeDef c = true) (hr : (execC Tryz.prog Γ 100 noLam c T H K).ok Qr) (hS : SR M w0 ν0 T H A X ν) (hd : A.defers = [])
    {Q : Exit → Act → World → Prop} (hQ : ∀ e A' X', postD [] M w0 ν0 K Qr e A' X' → (∀ (k : Nat) (o : Obj), X.heap[k]? = some o → o.isCells = false → X'.heap[k]? = some o) → X.heap.size ≤ X'.heap.size → Q e A' X') : c.wpIn (wideR none) nn Tryz.prog Q A X := by
  refine wpIn_mono (execC_in (nn := nn) hΓ mixed enters none [] 100 c hc (ownM X ν H) X ν (fun k hk => .inl hk) T H K Qr A X ν hr (hS.rebase hM) hd) ?_
  rintro e A' X' ⟨e', T', H', ν', rfl, hk, hS', hd'⟩
  exact hQ _ _ _ ⟨e', T', H', ν', rfl, hk, hS.unbase hM hS', hd'⟩ (fun k o hk ho => (hS'.fr.block k (Array.getElem?_eq_some_iff.1 hk).1 (hS.own_cells hk ho)).trans hk) hS'.fr.size
theorem pieceL {nn : Nat} {Γ : Gam} (hΓ : GamOk Tryz.prog Γ) {c : Code} {M : Nat → Prop} {w0 : World} {ν0 : Nu} {m : Nat} (hM : ∀ k, w0.heap.size ≤ k → M k) (hd0 : ∀ i b, ν0 i = some b → i < m) {T T' : List AV} {H H' : List AB} {lv : Ex → List Nat} {X : World} {A : Act} {ν : Nu} (hc : codeDef c = true) (hS : SR M w0 ν0 T H A X ν) (hd : A.defers = [])
    (hr : (execC Tryz.prog Γ 100 noLam c T H (leafK lv m)).ok fun e T2 H2 => e = .normal ∧ T2 = T' ∧ H2 = H')
    {Q : Exit → Act → World → Prop} (hQ : ∀ A' X' ν', SR M w0 ν0 T' H' A' X' ν' → A'.defers = [] → (∀ (k : Nat) (o : Obj), X.heap[k]? = some o → o.isCells = false → X'.heap[k]? = some o) → X.heap.size ≤ X'.heap.size → Q .normal A' X') : c.wpIn (wideR none) nn Tryz.prog Q A X := by
  refine pieceG hΓ hM hc hr hS hd fun e A' X' hp hk hsz => ?_
  obtain ⟨e', T2, H2, ν', rfl, ⟨rfl, rfl, rfl⟩, hS', hd'⟩ := leaf_post hp hd0
  exact hQ A' X' ν' hS' hd' hk hsz
theorem SR.step {M : Nat → Prop} {w0 : World} {ν0 : Nu} {T : List AV} {H : List AB} {A : Act} {X X' : World} {ν : Nu} {row : Option Nat} (h : SR M w0 ν0 T H A X ν) (hM : ∀ k, w0.heap.size ≤ k → M k) (hg : X.grownBy X' row) (hr : ∀ r, row = some r → w0.heap.size ≤ r ∧ ∃ o : Obj, X.heap[r]? = some o ∧ o.isCells = false) {dst : Option Tmp} {x : Value} (hd : dstOk T dst = true) :
    SR M w0 ν0 (setT T dst (.v x)) H (A.put dst x) X' ν := by
  have h' := h.turn hM hg hr
  exact SR.put h' hd (Le.refl _) (by simp only [VR]) h'.heap h'.fr h'.dom
theorem SR.at {M : Nat → Prop} {w0 : World} {ν0 : Nu} {T : List AV} {H : List AB} {A : Act} {X : World} {ν : Nu} (h : SR M w0 ν0 T H A X ν) {z : Operand} {x : Value} (hz : evA T z = .v x) : A.eval z = x := by
  have := evA_sound (T := T) (a := A) (ν := ν) (z := z) fun t _ => h.tmps t
  rw [hz] at this
  simpa only [VR] using this

noncomputable def kO (O : Array Oper) (k : Nat) : Oper := O.toList.getD k default
theorem k3_0 : kO3[0]? = some (kO kO3 0) := by kernel_rfl
theorem k3_1 : kO3[1]? = some (kO kO3 1) := by kernel_rfl
theorem k3_r : List.range kO3.size = [0, 1] := by kernel_rfl
theorem k3_0o : (kO kO3 0).op = .makeMap 81 none ∧ (kO kO3 0).guard = none ∧ (kO kO3 0).dst = some 11 := ⟨by kernel_rfl, by kernel_rfl, by kernel_rfl⟩
theorem k3_1o : (kO kO3 1).op = .assign (.tmp 11) ∧ (kO kO3 1).guard = none ∧ (kO kO3 1).dst = some 4 := ⟨by kernel_rfl, by kernel_rfl, by kernel_rfl⟩
theorem k8_0 : kO8[0]? = some (kO kO8 0) := by kernel_rfl
theorem k8_1 : kO8[1]? = some (kO kO8 1) := by kernel_rfl
theorem k8_2 : kO8[2]? = some (kO kO8 2) := by kernel_rfl
theorem k8_r : List.range kO8.size = [0, 1, 2] := by kernel_rfl
theorem k8_0o : (kO kO8 0).op = .move (.tmp 4) ∧ (kO kO8 0).guard = none ∧ (kO kO8 0).dst = some 20 := ⟨by kernel_rfl, by kernel_rfl, by kernel_rfl⟩
theorem k8_1o : (kO kO8 1).op = .load 27 (.tmp 6) ∧ (kO kO8 1).guard = none ∧ (kO kO8 1).dst = some 21 := ⟨by kernel_rfl, by kernel_rfl, by kernel_rfl⟩
theorem k8_2o : (kO kO8 2).op = .mapUpdate 81 (.tmp 20) (.tmp 21) (.const (.bool true)) ∧ (kO kO8 2).guard = none ∧ (kO kO8 2).dst = none := ⟨by kernel_rfl, by kernel_rfl, by kernel_rfl⟩
theorem k10_0 : kO10[0]? = some (kO kO10 0) := by kernel_rfl
theorem k10_1 : kO10[1]? = some (kO kO10 1) := by kernel_rfl
theorem k10_2 : kO10[2]? = some (kO kO10 2) := by kernel_rfl
theorem k10_3 : kO10[3]? = some (kO kO10 3) := by kernel_rfl
theorem k10_r : List.range kO10.size = [0, 1, 2, 3] := by kernel_rfl
theorem k10_0o : (kO kO10 0).op = .move (.tmp 4) ∧ (kO kO10 0).guard = none ∧ (kO kO10 0).dst = some 23 := ⟨by kernel_rfl, by kernel_rfl, by kernel_rfl⟩
theorem k10_1o : (kO kO10 1).op = .call ⟨.value (.func 50), #[.tmp 23], #[81]⟩ ∧ (kO kO10 1).guard = none ∧ (kO kO10 1).dst = some 24 := ⟨by kernel_rfl, by kernel_rfl, by kernel_rfl⟩
noncomputable def kts (o : Oper) : Array TypeId := match o.op with | .call c => c.argTypes | _ => #[]
theorem k10_2o : ((kO kO10 2).op = .call ⟨.value (.func 49), #[.tmp 24, .func 51], kts (kO kO10 2)⟩) ∧ (kO kO10 2).guard = none ∧ (kO kO10 2).dst = some 25 := ⟨by kernel_rfl, by kernel_rfl, by kernel_rfl⟩
theorem k10_3o : (kO kO10 3).op = .assign (.tmp 25) ∧ (kO kO10 3).guard = none ∧ (kO kO10 3).dst = some 7 := ⟨by kernel_rfl, by kernel_rfl, by kernel_rfl⟩
theorem run_mk {P : Program} {o : Oper} {t : TypeId} {a : Act} {w : World} (h : o.op = .makeMap t none) : (execOp a.eval o).run P w = .ok (.value (.map (some w.heap.size))) (w.alloc (.map #[] 0)) := by
  simp [execOp, h, run_makeMap, Result.andThen]
theorem run_upd {P : Program} {o : Oper} {t : TypeId} {m x v : Operand} {a : Act} {w w' : World} {mv key val : Value} (h : o.op = .mapUpdate t m x v) (hm : a.eval m = mv) (hx : a.eval x = key) (hv : a.eval v = val) (hr : (Instr.mapUpdate t mv key val).run P w = .ok () w') : (execOp a.eval o).run P w = .ok .skip w' := by
  simp [execOp, h, hm, hx, hv, hr, Result.andThen]
theorem run_cl1 {P : Program} {o : Oper} {f : FuncId} {x : Tmp} {ts : Array TypeId} {a : Act} {w : World} {v : Value} (h : o.op = .call ⟨.value (.func f), #[.tmp x], ts⟩) (hx : a.eval (.tmp x) = v) (eg : ∀ args w, (callFunc f args).run P w = .ok (.enter f args) w) : (execOp a.eval o).run P w = .ok (.enter f #[v]) w := by
  have e : a.tmps[x]?.getD undef = v := by rw [← hx]; simp [Act.eval]
  simp [execOp, h, resolve, Deferred.ofValue, invoke, Act.eval, go_sem, eg, e]
theorem run_cl2 {P : Program} {o : Oper} {f g : FuncId} {x : Tmp} {ts : Array TypeId} {a : Act} {w : World} {v : Value} (h : o.op = .call ⟨.value (.func f), #[.tmp x, .func g], ts⟩) (hx : a.eval (.tmp x) = v) (eg : ∀ args w, (callFunc f args).run P w = .ok (.enter f args) w) : (execOp a.eval o).run P w = .ok (.enter f #[v, .func (.func g) #[] #[]]) w := by
  have e : a.tmps[x]?.getD undef = v := by rw [← hx]; simp [Act.eval]
  simp [execOp, h, resolve, Deferred.ofValue, invoke, Act.eval, go_sem, eg, e]

end Go.Proofs.YtcadinbahmliiaaGreatDoor

/- Plain: entries in order. No conditions. -/
namespace Go.Proofs.YtcadinbahmliiaaGreatDoor
open Go.RowKit

theorem toL_inj {a b : ByteArray} (h : a.toList = b.toList) : a = b := eqB_eq (decide_eq_true h)
theorem bl_irr : ∀ x : List UInt8, Op.bytesLess x x = false
  | [] => rfl
  | a :: x => by
    rw [Op.bytesLess, bl_irr x, Bool.and_false, Bool.or_false, decide_eq_false_iff_not]
    exact UInt8.lt_irrefl a
theorem bl_trans : ∀ x y z : List UInt8, Op.bytesLess x y = true → Op.bytesLess y z = true → Op.bytesLess x z = true
  | [], _, [], _, h => by cases ‹List UInt8› <;> simp [Op.bytesLess] at h
  | [], _, _ :: _, _, _ => rfl
  | _ :: _, [], _, h, _ => by simp [Op.bytesLess] at h
  | _ :: _, _ :: _, [], _, h => by simp [Op.bytesLess] at h
  | a :: x, b :: y, c :: z, h1, h2 => by
    simp only [Op.bytesLess, Bool.or_eq_true, decide_eq_true_eq, Bool.and_eq_true, beq_iff_eq] at h1 h2 ⊢
    rcases h1 with h1 | ⟨h1, h1'⟩
    · rcases h2 with h2 | ⟨h2, _⟩
      · exact .inl (UInt8.lt_trans h1 h2)
      · exact .inl (h2 ▸ h1)
    · rcases h2 with h2 | ⟨h2, h2'⟩
      · exact .inl (h1 ▸ h2)
      · exact .inr ⟨h1.trans h2, bl_trans x y z h1' h2'⟩
theorem bl_tot : ∀ x y : List UInt8, Op.bytesLess x y = false → Op.bytesLess y x = false → x = y
  | [], [], _, _ => rfl
  | [], _ :: _, h, _ => by simp [Op.bytesLess] at h
  | _ :: _, [], _, h => by simp [Op.bytesLess] at h
  | a :: x, b :: y, h1, h2 => by
    simp only [Op.bytesLess, Bool.or_eq_false_iff, decide_eq_false_iff_not, Bool.and_eq_false_iff, beq_eq_false_iff_ne] at h1 h2
    have e : a = b := UInt8.le_antisymm (UInt8.not_lt.1 h2.1) (UInt8.not_lt.1 h1.1)
    subst e
    rw [bl_tot x y (h1.2.resolve_left fun h => h rfl) (h2.2.resolve_left fun h => h rfl)]

abbrev ltP (x y : ByteArray × Int) : Bool := lsB x.1 x.2 y.1 y.2
theorem ltP_iff (x y : ByteArray × Int) : ltP x y = true ↔ x.2 < y.2 ∨ (x.2 = y.2 ∧ lessB x.1 y.1 = true) := by
  unfold ltP lsB
  cases h : x.2 != y.2 with
  | true =>
    have := bne_iff_ne.1 h
    simp only [cond_true, decide_eq_true_eq]
    exact ⟨.inl, fun h => h.resolve_right fun h => this h.1⟩
  | false =>
    have : x.2 = y.2 := by simpa using h
    simp only [cond_false]
    exact ⟨fun h => .inr ⟨this, h⟩, fun h => (h.resolve_left (by omega)).2⟩
theorem ltP_irr (x : ByteArray × Int) : ltP x x = false := by
  rw [Bool.eq_false_iff, ne_eq, ltP_iff]
  rintro (h | ⟨_, h⟩)
  · omega
  · rw [lessB, bl_irr] at h; cases h
theorem ltP_trans {x y z : ByteArray × Int} (h1 : ltP x y = true) (h2 : ltP y z = true) : ltP x z = true := by
  rw [ltP_iff] at h1 h2 ⊢
  rcases h1 with h1 | ⟨h1, h1'⟩
  · rcases h2 with h2 | ⟨h2, _⟩
    · exact .inl (by omega)
    · exact .inl (by omega)
  · rcases h2 with h2 | ⟨h2, h2'⟩
    · exact .inl (by omega)
    · exact .inr ⟨by omega, bl_trans _ _ _ h1' h2'⟩
theorem ltP_tot {x y : ByteArray × Int} (h1 : ltP x y = false) (h2 : ltP y x = false) : x = y := by
  rw [Bool.eq_false_iff, ne_eq, ltP_iff] at h1 h2
  have e : x.2 = y.2 := by omega
  have e1 : x.1.toList = y.1.toList := bl_tot _ _ (by
    rw [Bool.eq_false_iff]
    exact fun h => h1 (.inr ⟨e, h⟩)) (by
    rw [Bool.eq_false_iff]
    exact fun h => h2 (.inr ⟨e.symm, h⟩))
  obtain ⟨s, c⟩ := x
  obtain ⟨s2, c2⟩ := y
  simp only at e e1
  rw [e, toL_inj e1]

def insR : List (ByteArray × Int) → ByteArray × Int → List (ByteArray × Int)
  | [], x => [x]
  | y :: L, x => bif ltP y x then y :: insR L x else bif eqB y.1 x.1 && (y.2 == x.2) then y :: L else x :: y :: L
theorem insL_eq (L : List (ByteArray × Int)) (x : ByteArray × Int) : insL L x.1 x.2 = insR L x := by
  induction L with
  | nil => rfl
  | cons y L ih =>
    cases h : lsB y.1 y.2 x.1 x.2 with
    | true =>
      have hp : posL (y :: L) x.1 x.2 = posL L x.1 x.2 + 1 := by rw [posL, h]; rfl
      have hh : hasK (y :: L) x.1 x.2 = hasK L x.1 x.2 := by
        unfold hasK
        rw [hp]
        simp only [List.length_cons, Nat.add_lt_add_iff_right]
        rfl
      rw [insR, show ltP y x = true from h, cond_true, ← ih]
      unfold insL
      rw [hp, hh]
      cases hasK L x.1 x.2 <;> rfl
    | false =>
      have hp : posL (y :: L) x.1 x.2 = 0 := by rw [posL, h]; rfl
      have hh : hasK (y :: L) x.1 x.2 = (eqB y.1 x.1 && (y.2 == x.2)) := by
        unfold hasK
        rw [hp, decide_eq_true (by simp : 0 < (y :: L).length), Bool.true_and]
        rfl
      rw [insR, show ltP y x = false from h, cond_false]
      unfold insL
      rw [hp, hh]
      rfl
def SortE (L : List (ByteArray × Int)) : Prop := L.Pairwise fun x y => ltP x y = true
theorem eqP_iff {x y : ByteArray × Int} : (eqB x.1 y.1 && (x.2 == y.2)) = true ↔ x = y := by
  obtain ⟨s, c⟩ := x
  obtain ⟨s2, c2⟩ := y
  rw [Bool.and_eq_true, beq_iff_eq, eqB, decide_eq_true_eq]
  constructor
  · rintro ⟨h1, h2⟩
    simp only at h1 h2
    rw [toL_inj h1, h2]
  · intro h
    cases h
    exact ⟨rfl, rfl⟩
theorem mem_insR {L : List (ByteArray × Int)} {x z : ByteArray × Int} : z ∈ insR L x ↔ z ∈ L ∨ z = x := by
  induction L with
  | nil => simp [insR]
  | cons y L ih =>
    unfold insR
    cases h : ltP y x with
    | true => simp only [cond_true, List.mem_cons, ih]; grind
    | false =>
      cases h2 : eqB y.1 x.1 && (y.2 == x.2) with
      | true =>
        have := eqP_iff.1 h2
        simp only [cond_false, cond_true, List.mem_cons]
        subst this
        grind
      | false => simp only [cond_false, List.mem_cons]; grind
theorem sort_insR {L : List (ByteArray × Int)} (hL : SortE L) (x : ByteArray × Int) : SortE (insR L x) := by
  induction L with
  | nil => exact List.pairwise_singleton _ _
  | cons y L ih =>
    unfold SortE at hL ⊢
    rw [List.pairwise_cons] at hL
    unfold insR
    cases h : ltP y x with
    | true =>
      rw [cond_true, List.pairwise_cons]
      refine ⟨fun z hz => ?_, ih hL.2⟩
      rcases mem_insR.1 hz with hz | rfl
      · exact hL.1 z hz
      · exact h
    | false =>
      cases h2 : eqB y.1 x.1 && (y.2 == x.2) with
      | true => rw [cond_false, cond_true, List.pairwise_cons]; exact hL
      | false =>
        have hx : ltP x y = true := by
          cases h3 : ltP x y with
          | true => rfl
          | false => rw [eqP_iff.2 (ltP_tot h h3)] at h2; cases h2
        rw [cond_false, cond_false, List.pairwise_cons, List.pairwise_cons]
        refine ⟨fun z hz => ?_, hL⟩
        rcases List.mem_cons.1 hz with rfl | hz
        · exact hx
        · exact ltP_trans hx (hL.1 z hz)
theorem mem_bkL {er : ByteArray → Int → Bool} {ft : Nat → ByteArray} {fc : Nat → Int} {m : Nat} {z : ByteArray × Int} : z ∈ bkL er ft fc m ↔ ∃ i, i < m ∧ er (ft i) (fc i) = true ∧ z = (ft i, fc i) := by
  induction m with
  | zero => simp [bkL]
  | succ m ih =>
    unfold bkL
    cases h : er (ft m) (fc m) with
    | true =>
      rw [cond_true, show insL (bkL er ft fc m) (ft m) (fc m) = insR (bkL er ft fc m) (ft m, fc m) from insL_eq (bkL er ft fc m) (ft m, fc m), mem_insR, ih]
      constructor
      · rintro (⟨i, h1, h2⟩ | rfl)
        · exact ⟨i, by omega, h2⟩
        · exact ⟨m, by omega, h, rfl⟩
      · rintro ⟨i, h1, h2, h3⟩
        by_cases e : i = m
        · subst e; exact .inr h3
        · exact .inl ⟨i, by omega, h2, h3⟩
    | false =>
      rw [cond_false, ih]
      constructor
      · rintro ⟨i, h1, h2⟩
        exact ⟨i, by omega, h2⟩
      · rintro ⟨i, h1, h2, h3⟩
        by_cases e : i = m
        · subst e; rw [h] at h2; cases h2
        · exact ⟨i, by omega, h2, h3⟩
theorem sort_bkL (er : ByteArray → Int → Bool) (ft : Nat → ByteArray) (fc : Nat → Int) (m : Nat) : SortE (bkL er ft fc m) := by
  induction m with
  | zero => exact List.Pairwise.nil
  | succ m ih =>
    unfold bkL
    cases er (ft m) (fc m) with
    | true => rw [cond_true, show insL (bkL er ft fc m) (ft m) (fc m) = insR (bkL er ft fc m) (ft m, fc m) from insL_eq (bkL er ft fc m) (ft m, fc m)]; exact sort_insR ih _
    | false => exact ih
theorem sort_uniq : ∀ {L M : List (ByteArray × Int)}, SortE L → SortE M → (∀ z, z ∈ L ↔ z ∈ M) → L = M
  | [], [], _, _, _ => rfl
  | [], y :: M, _, _, h => absurd ((h y).2 List.mem_cons_self) (by simp)
  | x :: L, [], _, _, h => absurd ((h x).1 List.mem_cons_self) (by simp)
  | x :: L, y :: M, hL, hM, h => by
    have hL' := List.pairwise_cons.1 hL
    have hM' := List.pairwise_cons.1 hM
    have e : x = y := by
      rcases List.mem_cons.1 ((h x).1 List.mem_cons_self) with e | hx
      · exact e
      · rcases List.mem_cons.1 ((h y).2 List.mem_cons_self) with e | hy
        · exact e.symm
        · have h1 := ltP_trans (hM'.1 x hx) (hL'.1 y hy)
          rw [ltP_irr] at h1
          cases h1
    subst e
    rw [sort_uniq hL'.2 hM'.2 fun z => ?_]
    have hz := h z
    rw [List.mem_cons, List.mem_cons] at hz
    constructor
    · intro h1
      rcases hz.1 (.inr h1) with rfl | h2
      · have h3 := hL'.1 z h1; rw [ltP_irr] at h3; cases h3
      · exact h2
    · intro h1
      rcases hz.2 (.inr h1) with rfl | h2
      · have h3 := hM'.1 z h1; rw [ltP_irr] at h3; cases h3
      · exact h2
theorem eTC (L : List (ByteArray × Int)) (i : Nat) (h : i < L.length) : (eT L i, eC L i) = L[i] := by
  simp only [eT, eC, List.getD_eq_getElem?_getD, List.getElem?_eq_getElem h, Option.getD_some]
theorem bkL_self {er : ByteArray → Int → Bool} {L : List (ByteArray × Int)} (hs : SortE L) (hr : ∀ z, z ∈ L → er z.1 z.2 = true) : bkL er (eT L) (eC L) L.length = L :=
  sort_uniq (sort_bkL _ _ _ _) hs fun z => by
    rw [mem_bkL]
    constructor
    · rintro ⟨i, hi, _, rfl⟩
      rw [eTC L i hi]
      exact List.getElem_mem hi
    · intro h
      obtain ⟨i, hi, rfl⟩ := List.getElem_of_mem h
      have e := eTC L i hi
      refine ⟨i, hi, ?_, e.symm⟩
      have := hr _ h
      rw [← e] at this
      exact this

end Go.Proofs.YtcadinbahmliiaaGreatDoor

/- The program's BookSort: the map is filled. Conditions: entries, at most fifty. -/
namespace Go.Proofs.YtcadinbahmliiaaGreatDoor
open Go.RowKit
set_option maxRecDepth 100000

theorem wf_wrap32 (n : Int) : (Lit.int .u32 (IntKind.wrap IntKind.u32 n)).wf = true := by
  have h1 : IntKind.u32.min = 0 := rfl
  have h2 : IntKind.u32.max = 4294967295 := rfl
  simp only [Lit.wf, h1, h2, IntKind.wrap, IntKind.bits, IntKind.signed, Bool.and_eq_true, decide_eq_true_eq]
  simp
  omega
theorem ckV_wf (L : List Wh) : (Lit.int .u32 (ckV L)).wf = true := by
  unfold ckV
  cases ckY L with
  | false => rfl
  | true =>
    rw [cond_true, ckH, hsh]
    exact wf_wrap32 _
theorem right_key {s : ByteArray} {c : Int} (h : erB s c = true) : keyOf Tryz.prog 27 (encE (s, c)) = some (litE (s, c)) := by
  have h0 := h
  rw [erB, Bool.and_eq_true, Bool.and_eq_true] at h0
  obtain ⟨h1, h2, h3⟩ := h0
  obtain ⟨_, _, hs⟩ := (re_iff s (tRI s)).1 ⟨h1, rfl⟩
  refine keyOf_E (x := (s, c)) ?_ ?_
  · show s.size ≤ maxLen
    unfold maxLen
    omega
  · rw [show c = ckV (tRI s) from (eq_of_beq h3).symm]
    exact ckV_wf _
theorem bk_no {er : ByteArray → Int → Bool} {ft : Nat → ByteArray} {fc : Nat → Int} {i : Nat} (h : er (ft i) (fc i) = false) : bkL er ft fc (i + 1) = bkL er ft fc i := by rw [bkL, h, cond_false]
theorem bk_yes {er : ByteArray → Int → Bool} {ft : Nat → ByteArray} {fc : Nat → Int} {i : Nat} (h : er (ft i) (fc i) = true) (z : ByteArray × Int) : z ∈ bkL er ft fc (i + 1) ↔ z = (ft i, fc i) ∨ z ∈ bkL er ft fc i := by
  rw [mem_bkL, mem_bkL]
  constructor
  · rintro ⟨q, h1, h2, h3⟩
    by_cases e : q = i
    · subst e; exact .inl h3
    · exact .inr ⟨q, by omega, h2, h3⟩
  · rintro (h3 | ⟨q, h1, h2, h3⟩)
    · exact ⟨i, by omega, h, h3⟩
    · exact ⟨q, by omega, h2, h3⟩
abbrev OwnM (X : World) (b n : Nat) (D : DataW Unit) : Prop := X.ownsMap Tryz.prog 27 (plainElem Tryz.prog 4) b n D
theorem own_keep {X X' : World} {b n : Nat} {D : DataW Unit} (h : OwnM X b n D) (hk : ∀ (k : Nat) (o : Obj), X.heap[k]? = some o → o.isCells = false → X'.heap[k]? = some o) : OwnM X' b n D := by
  obtain ⟨es, clock, hb, F, hs, hD⟩ := h
  exact ⟨es, clock, hk b _ hb rfl, F, hs, hD⟩
theorem opL {nn : Nat} {Γ : Gam} (hΓ : GamOk Tryz.prog Γ) {M : Nat → Prop} {w0 : World} {ν0 : Nu} (hM : ∀ k, w0.heap.size ≤ k → M k) {all : Array Oper} {Q : Exit → Act → World → Prop} {k : Nat} {o : Oper} (hk : all[k]? = some o) (hg : o.guard = none) (hd : ∀ c, o.op ≠ .defer c) {T T' : List AV} {H : List AB} {X : World} {A : Act} {ν : Nu} {v : AV} {ob : List Bool}
    (hδ : opA Tryz.prog Γ o T H H.length = some { val := v, obl := ob, rd := (opA Tryz.prog Γ o T H H.length).elim [] Delta.rd }) (ho : obls ob = true) (h1 : dstOk T o.dst = true) (hT : setT T o.dst v = T') (hS : SR M w0 ν0 T H A X ν) {K : Act → World → Prop}
    (hK : ∀ A' X' ν', SR M w0 ν0 T' H A' X' ν' → A'.defers = A.defers → (∀ (k : Nat) (o : Obj), X.heap[k]? = some o → o.isCells = false → X'.heap[k]? = some o) → K A' X') : wpOpIn (wideR none) nn Tryz.prog all Q k K A X := by
  refine mach1 hΓ hk hg hd (M := ownM X ν H) (fun k hk => .inl hk) hδ ho (by rw [h1]; rfl) (hS.rebase hM) fun a' w' ν' hS' hdf => ?_
  have e : appH H { val := v, obl := ob, rd := (opA Tryz.prog Γ o T H H.length).elim [] Delta.rd } = H := by simp [appH, putA]
  rw [e] at hS'
  subst hT
  exact hK a' w' ν' (hS.unbase hM hS') hdf fun k o hk ho => (hS'.fr.block k (Array.getElem?_eq_some_iff.1 hk).1 (hS.own_cells hk ho)).trans hk
theorem gmBk_ok : GamOk Tryz.prog (gmBk erB) := ext_ok g0_ok ok_erI

theorem walk1 {nn : Nat} {m : Nat} {ft : Nat → ByteArray} {fc : Nat → Int} (hm : m ≤ 50) {M : Nat → Prop} {w0 : World} {ν0 : Nu} (hM : ∀ k, w0.heap.size ≤ k → M k) (hd0 : ∀ i b, ν0 i = some b → i < 1) {A : Act} {X : World} {ν : Nu} {b : Nat} (hS : SR M w0 ν0 (kT3 m b) (hpB m ft fc) A X ν) (hd : A.defers = []) (hb : w0.heap.size ≤ b) (hown : OwnM X b 0 (.map []))
    {Q : Exit → Act → World → Prop} (hQ : ∀ A' X' ν' D, SR M w0 ν0 (kT5 m b m (decide ((m : Int) < m))) (hpB m ft fc) A' X' ν' → A'.defers = [] → OwnM X' b m D → (∀ z, hasE D z ↔ z ∈ bkL erB ft fc m) → Q .normal A' X') :
    (Code.seq kR4 (.block 0 (.loop kL))).wpIn (wideR none) nn Tryz.prog Q A X := by
  have tM : Tryz.prog.underlying 81 = some (.map 27 4) := by kernel_rfl
  have tB : Tryz.prog.underlying 4 = some .bool := by kernel_rfl
  refine wpIn_seq (pieceL g0_ok hM hd0 (T' := kT4 m b 0) (H' := hpB m ft fc) (lv := lv3 [4, 12, 13, 14] [] []) (by kernel_rfl) hS hd (by rw [trK4]; exact ⟨rfl, rfl, rfl⟩) fun A1 X1 ν1 hS1 hd1 hk1 _ => ?_)
  show (Code.block 0 (.loop kL)).wpIn (wideR none) nn Tryz.prog _ A1 X1
  refine wpIn_block (wpIn_loop (fun A X => ∃ i ν D, i ≤ m ∧ A.defers = [] ∧ SR M w0 ν0 (kT4 m b i) (hpB m ft fc) A X ν ∧ OwnM X b i D ∧ ∀ z, hasE D z ↔ z ∈ bkL erB ft fc i) (fun A _ => m - (intOf (A.tmps.getD 14 undef)).toNat) ⟨0, ν1, .map [], Nat.zero_le _, hd1, hS1, own_keep hown hk1, fun z => ⟨fun h => (hasE_nil z h).elim, fun h => by simp [bkL] at h⟩⟩ ?_)
  clear hS hd hown hS1 hd1 hk1
  have mu : ∀ {i : Nat} {A : Act} {X : World} {ν : Nu}, SR M w0 ν0 (kT4 m b i) (hpB m ft fc) A X ν → (intOf (A.tmps.getD 14 undef)).toNat = i := by
    intro i A X ν h
    have := h.tmps 14
    rw [show (kT4 m b i).getD 14 .dead = .v (i64 i) from by kernel_rfl] at this
    simp only [VR] at this
    rw [this]
    simp [intOf]
  rintro A X ⟨i, ν, D, hi, hd, hS, hown, hD⟩
  have hmu0 := mu hS
  rw [loopBk]
  refine wpIn_seq (pieceL g0_ok hM hd0 (T' := kT5 m b i (decide ((i : Int) < m))) (H' := hpB m ft fc) (lv := lv3 [4, 12, 13, 14, 15] [] []) (by kernel_rfl) hS hd (by rw [trK5]; exact ⟨rfl, rfl, rfl⟩) fun A1 X1 ν1 hS1 hd1 hk1 _ => ?_)
  have hown1 := own_keep hown hk1
  show (Code.seq (.cond (.tmp 15) .skip (.exit 0)) _).wpIn (wideR none) nn Tryz.prog _ A1 X1
  refine wpIn_seq (wpIn_cond (hS1.at (z := .tmp 15) (x := .bool (decide ((i : Int) < m))) rfl) ?_)
  rcases (Nat.lt_or_ge i m).symm with hge | hlt
  · rw [if_neg (by simp; omega)]
    refine wpIn_exit ?_
    have e : i = m := by omega
    subst e
    simp only [Exit.then, Exit.inBlock, if_true]
    exact hQ A1 X1 ν1 D hS1 hd1 hown1 hD
  · rw [if_pos (by simp; omega)]
    refine wpIn_skip ?_
    show (Code.seq (.block 1 _) _).wpIn (wideR none) nn Tryz.prog _ A1 X1
    refine wpIn_seq (wpIn_block (wpIn_seq (pieceL g0_ok hM hd0 (T' := kT6 m b i) (H' := hpB1 m ft fc i) (lv := lv3 [4, 6, 12, 13, 14] [] []) (by kernel_rfl) hS1 hd1 ?_ fun A2 X2 ν2 hS2 hd2 hk2 _ => ?_)))
    · rw [trK6]
      simp only [Int.toNat_natCast, Nat.zero_add]
      exact needs_mk (by simp only [ob_cons, ob_nil, and_true, decide_eq_true_eq]; omega) ⟨rfl, rfl, rfl⟩
    have hown2 := own_keep hown1 hk2
    show (Code.seq kR7 _).wpIn (wideR none) nn Tryz.prog _ A2 X2
    refine wpIn_seq (pieceL gmBk_ok hM hd0 (T' := kT7 m b i (erB (ft i) (fc i))) (H' := hpB1 m ft fc i) (lv := lv3 [4, 6, 12, 13, 14, 19] [] []) (by kernel_rfl) hS2 hd2 (by rw [trK7]; exact ⟨rfl, rfl, rfl⟩) fun A3 X3 ν3 hS3 hd3 hk3 _ => ?_)
    have hown3 := own_keep hown2 hk3
    have fin : ∀ (A4 : Act) (X4 : World) (ν4 : Nu) (D4 : DataW Unit) (q : Bool), SR M w0 ν0 (kT7 m b i q) (hpB1 m ft fc i) A4 X4 ν4 → A4.defers = [] → OwnM X4 b (i + 1) D4 → ∀ {Q' : Exit → Act → World → Prop}, (∀ A5 X5 ν5, SR M w0 ν0 (kT4 m b (i + 1)) (hpB m ft fc) A5 X5 ν5 → A5.defers = [] → OwnM X5 b (i + 1) D4 → Q' .normal A5 X5) → kR9.wpIn (wideR none) nn Tryz.prog Q' A4 X4 := by
      intro A4 X4 ν4 D4 q hS4 hd4 hown4 Q' hQ'
      refine pieceL g0_ok hM hd0 (T' := kT4 m b (i + 1)) (H' := hpB m ft fc) (lv := lv3 [4, 12, 13, 14] [] []) (by kernel_rfl) hS4 hd4 ?_ fun A5 X5 ν5 hS5 hd5 hk5 _ => hQ' A5 X5 ν5 hS5 hd5 (own_keep hown4 hk5)
      rw [trK9, wr_in (x := (i : Int) + 1) (by omega)]
      exact ⟨rfl, rfl, rfl⟩
    show (Code.cond (.tmp 19) (.region 8 kO8 false) .skip).wpIn (wideR none) nn Tryz.prog _ A3 X3
    refine wpIn_cond (hS3.at (z := .tmp 19) (x := .bool (erB (ft i) (fc i))) rfl) ?_
    cases hq : erB (ft i) (fc i) with
    | false =>
      rw [if_neg (by simp)]
      refine wpIn_skip ?_
      show kR9.wpIn (wideR none) nn Tryz.prog _ A3 X3
      refine fin A3 X3 ν3 D _ hS3 hd3 (hown3.mono (by omega)) fun A5 X5 ν5 hS5 hd5 hown5 => ⟨⟨i + 1, ν5, D, hlt, hd5, hS5, hown5, fun z => by rw [bk_no hq]; exact hD z⟩, ?_⟩
      rw [mu hS5, hmu0]
      omega
    | true =>
      rw [hq] at hS3
      rw [if_pos rfl]
      refine wpIn_region ?_
      rw [k8_r, wpOpsIn_cons]
      refine opL g0_ok hM k8_0 k8_0o.2.1 (by rw [k8_0o.1]; simp) (v := .v (.map (some b))) (ob := []) (T' := (kT7 m b i true).set 20 (.v (.map (some b)))) (by kernel_rfl) rfl (by kernel_rfl) (by kernel_rfl) hS3 fun A4 X4 ν4 hS4 hd4 hk4 => ?_
      rw [wpOpsIn_cons]
      refine opL g0_ok hM k8_1 k8_1o.2.1 (by rw [k8_1o.1]; simp) (v := .agg [.v (.string (ft i)), .v (.int .u32 (fc i))]) (ob := []) (T' := ((kT7 m b i true).set 20 (.v (.map (some b)))).set 21 (.agg [.v (.string (ft i)), .v (.int .u32 (fc i))])) (by kernel_rfl) rfl (by kernel_rfl) (by kernel_rfl) hS4 fun A5 X5 ν5 hS5 hd5 hk5 => ?_
      rw [wpOpsIn_cons]
      have hown5 := own_keep (own_keep hown3 hk4) hk5
      have hx : A5.eval (.tmp 21) = encE (ft i, fc i) := by
        have := evA_sound (T := ((kT7 m b i true).set 20 (.v (.map (some b)))).set 21 (.agg [.v (.string (ft i)), .v (.int .u32 (fc i))])) (a := A5) (ν := ν5) (z := .tmp 21) fun t _ => hS5.tmps t
        change VR ν5 (.agg [.v (.string (ft i)), .v (.int .u32 (fc i))]) _ at this
        simp only [VR] at this
        obtain ⟨l, e, hl⟩ := this
        match l, hl with
        | [y1, y2], hl =>
          simp only [VRs, VR, and_true] at hl
          obtain ⟨rfl, rfl⟩ := hl
          exact e
      obtain ⟨es, hes, _⟩ := hown.entries keyed_E
      obtain ⟨X6, hrun, hown6, hg6⟩ := hown5.update keyed_E tM (by unfold maxLen; omega) (right_key hq) (plainElem_bool tB true)
      refine op_skip k8_2 k8_2o.2.1 (run_upd k8_2o.1 (hS5.at (z := .tmp 20) rfl) hx rfl hrun) ?_
      rw [k8_2o.2.2]
      have hS6 : SR M w0 ν0 (kT7 m b i true) (hpB1 m ft fc i) A5 X6 ν5 := by
        refine (hS5.turn hM hg6 fun r e => ?_).less rfl (mask_less (live := [4, 6, 12, 13, 14, 19]) (by kernel_rfl)) rfl fun _ => .inl rfl
        cases e
        obtain ⟨es', clock, ho, _⟩ := hown5
        exact ⟨hb, _, ho, rfl⟩
      show kR9.wpIn (wideR none) nn Tryz.prog _ A5 X6
      refine fin A5 X6 ν5 _ true hS6 (hd5.trans (hd4.trans hd3)) hown6 fun A7 X7 ν7 hS7 hd7 hown7 => ⟨⟨i + 1, ν7, _, hlt, hd7, hS7, hown7, fun z => by rw [hasE_put hes (right_key hq) z, bk_yes hq]; exact or_congr Iff.rfl (hD z)⟩, ?_⟩
      rw [mu hS7, hmu0]
      omega

end Go.Proofs.YtcadinbahmliiaaGreatDoor

/- FnSort: the words of its loops, where some entry is right. Conditions: what is sorted. -/
namespace Go.Proofs.YtcadinbahmliiaaGreatDoor
open Go.RowKit
set_option maxRecDepth 100000

theorem gmSoR_ok : GamOk Tryz.prog (gmSoR erB) := ext_ok g0_ok ok_erI
theorem lt_asym {x y : ByteArray × Int} (h : ltP x y = true) : ¬ y.2 < x.2 ∧ (y.2 = x.2 → (lessB y.1 x.1 || eqB y.1 x.1) = false) := by
  have h0 := (ltP_iff x y).1 h
  refine ⟨fun h1 => by rcases h0 with h2 | ⟨h2, _⟩ <;> omega, fun h1 => ?_⟩
  have h3 : lessB x.1 y.1 = true := by
    rcases h0 with h2 | ⟨_, h2⟩
    · omega
    · exact h2
  cases h4 : lessB y.1 x.1 with
  | true =>
    have := bl_trans _ _ _ h3 h4
    rw [bl_irr] at this
    cases this
  | false =>
    cases h5 : eqB y.1 x.1 with
    | false => rfl
    | true =>
      rw [eqB_eq h5, lessB, bl_irr] at h3
      cases h3
theorem sumSoA (m : Nat) (b : Nat → Int) (k : Nat) (ft : Nat → ByteArray) (fc : Nat → Int) (n : Nat) (gt : Nat → ByteArray) (gc : Nat → Int) (x : Nat) (ht : Nat → ByteArray) (hc : Nat → Int) (hn : n ≤ 2 ^ 40) (hr : ∀ i, i < n → erB (gt i) (gc i) = true) (hs : ∀ i, 0 < i → i < n → ltP (gt (i - 1), gc (i - 1)) (gt i, gc i) = true) :
    SumOk Tryz.prog 1 (.block 0 (.loop (loopAt 0 fSo))) (atS 151 (lvSoA .normal) 1 [.own 1 k, .sl 2 2 0 0 n (some n), .sl 3 2 0 0 x (some x), .v (.bool true), .v (i64 (0 : Nat))] (hpSo m b k ft fc n gt gc x ht hc) (fun K => K .normal (mkT 0 151 [(3, .own 1 k), (4, .sl 2 2 0 0 n (some n)), (8, .sl 3 2 0 0 x (some x)), (9, .v (.bool true))]) (hpSo m b k ft fc n gt gc x ht hc))) := by
  refine for_at gmSoR_ok (n := 100) (m := 1) (lv := lvSoA) (fun i => [.own 1 k, .sl 2 2 0 0 n (some n), .sl 3 2 0 0 x (some x), .v (.bool true), .v (i64 i)]) (fun _ => hpSo m b k ft fc n gt gc x ht hc) (fun _ => True) n (fun _ => noLam) (lv3_ris rfl rfl rfl) (Nat.le_refl _) trivial fun K Q hk i _ him => ⟨noLam_ok _ _ _, ?_⟩
  rw [rndSoA]
  refine good_cond (fun c1 => ?_) fun c1 => ?_
  · have c1 := of_decide_eq_true c1
    have c1' : i < n := by omega
    simp only [Int.toNat_natCast, Nat.zero_add]
    rw [wr_in (x := (i : Int) + 1) (by omega), hr i c1']
    have fin : ∀ {H : List AB}, Hsim H (hpSo m b k ft fc n gt gc x ht hc) → ∃ s', (s' = i + 1 ∧ i < n ∧ True) ∧ ([.own 1 k, .sl 2 2 0 0 n (some n), .sl 3 2 0 0 x (some x), .v (.bool true), .v (i64 ((i : Int) + 1))] : List AV) = [.own 1 k, .sl 2 2 0 0 n (some n), .sl 3 2 0 0 x (some x), .v (.bool true), .v (i64 ((s' : Nat) : Int))] ∧ Hsim H (hpSo m b k ft fc n gt gc x ht hc) := fun h => ⟨i + 1, ⟨rfl, c1', trivial⟩, rfl, h⟩
    refine good_needs (by simp only [ob_cons, ob_nil, and_true, decide_eq_true_eq]; omega) ?_
    simp only [Bool.not_true, cond_false]
    refine good_cond (fun c2 => ?_) fun c2 => good_out (fin (Hsim.refl _))
    have c2 := of_decide_eq_true c2
    rw [wr_in (x := (i : Int) - 1) (by omega), show Int.toNat ((i : Int) - 1) = i - 1 by omega]
    obtain ⟨h1, h2⟩ := lt_asym (hs i (by omega) c1')
    refine good_needs (by simp only [ob_cons, ob_nil, and_true, decide_eq_true_eq]; omega) (good_cond (fun c3 => absurd (of_decide_eq_true c3) h1) fun _ => good_needs (by simp only [ob_cons, ob_nil, and_true, decide_eq_true_eq]; omega) (good_cond (fun c4 => ?_) fun c4 => good_out (fin (Hsim.refl _))))
    have h3 := h2 (by simpa using c4)
    simp only at h3
    refine good_needs (by simp only [ob_cons, ob_nil, and_true, decide_eq_true_eq]; omega) ?_
    rw [h3]
    exact good_out (fin (Hsim.refl _))
  · have c1 := of_decide_eq_false c1
    have : i = n := by omega
    subst this
    refine good_out ⟨_, Hsim.refl _, ?_⟩
    rw [if_pos rfl]
    exact hk

def fdV (f : Bool) (s : ByteArray) (c : Int) (gt : Nat → ByteArray) (gc : Nat → Int) : Nat → Bool
  | 0 => f
  | q + 1 => bif fdV f s c gt gc q then true else eqB (gt q) s && (gc q == c)
theorem fdV_mono {f : Bool} {s : ByteArray} {c : Int} {gt : Nat → ByteArray} {gc : Nat → Int} {q : Nat} (h : fdV f s c gt gc q = true) : ∀ d, fdV f s c gt gc (q + d) = true
  | 0 => h
  | d + 1 => by rw [← Nat.add_assoc, fdV, fdV_mono h d]; rfl
theorem fdV_yes {f : Bool} {s : ByteArray} {c : Int} {gt : Nat → ByteArray} {gc : Nat → Int} {n : Nat} (h : f = true ∨ ∃ q, q < n ∧ gt q = s ∧ gc q = c) : fdV f s c gt gc n = true := by
  rcases h with h | ⟨q, h1, h2, h3⟩
  · have := fdV_mono (q := 0) (show fdV f s c gt gc 0 = true from h) n
    rwa [Nat.zero_add] at this
  · have h4 : fdV f s c gt gc (q + 1) = true := by
      rw [fdV, h2, h3]
      cases fdV f s c gt gc q with
      | true => rfl
      | false => rw [cond_false, beq_self_eq_true, Bool.and_true, eqB]; exact decide_eq_true rfl
    have := fdV_mono h4 (n - (q + 1))
    rwa [show q + 1 + (n - (q + 1)) = n by omega] at this
theorem sumSoC (m : Nat) (b : Nat → Int) (k : Nat) (ft : Nat → ByteArray) (fc : Nat → Int) (n : Nat) (gt : Nat → ByteArray) (gc : Nat → Int) (x : Nat) (ht : Nat → ByteArray) (hc : Nat → Int) (i : Nat) (f : Bool) (hn : n ≤ 2 ^ 40) (hi : i < k) :
    SumOk Tryz.prog 1 (.block 4 (.loop (loopAt 4 fSo))) (atS 151 (lvSoC .normal) 1 [.own 1 k, .sl 2 2 0 0 n (some n), .sl 3 2 0 0 x (some x), .v (.bool true), .v (i64 i), .v (.bool f), .v (i64 (0 : Nat))] (hpSo m b k ft fc n gt gc x ht hc) (fun K => K .normal (mkT 0 151 [(3, .own 1 k), (4, .sl 2 2 0 0 n (some n)), (8, .sl 3 2 0 0 x (some x)), (9, .v (.bool true)), (11, .v (i64 i)), (12, .v (.bool (fdV f (ft i) (fc i) gt gc n)))]) (hpSo m b k ft fc n gt gc x ht hc))) := by
  refine for_at gmSoR_ok (n := 100) (m := 1) (lv := lvSoC) (fun q => [.own 1 k, .sl 2 2 0 0 n (some n), .sl 3 2 0 0 x (some x), .v (.bool true), .v (i64 i), .v (.bool (fdV f (ft i) (fc i) gt gc q)), .v (i64 q)]) (fun _ => hpSo m b k ft fc n gt gc x ht hc) (fun _ => True) n (fun _ => noLam) (lv3_ris rfl rfl rfl) (Nat.le_refl _) trivial fun K Q hk q _ him => ⟨noLam_ok _ _ _, ?_⟩
  rw [rndSoC]
  refine good_cond (fun c1 => ?_) fun c1 => ?_
  · have c1 := of_decide_eq_true c1
    have c1' : q < n := by omega
    simp only [Int.toNat_natCast, Nat.zero_add]
    rw [wr_in (x := (q : Int) + 1) (by omega)]
    refine good_cond (fun c2 => good_out ⟨q + 1, ⟨rfl, c1', trivial⟩, ?_, Hsim.refl _⟩) fun c2 => good_needs (by simp only [ob_cons, ob_nil, and_true, decide_eq_true_eq]; omega) (good_out ⟨q + 1, ⟨rfl, c1', trivial⟩, ?_, Hsim.refl _⟩)
    · have e : fdV f (ft i) (fc i) gt gc (q + 1) = true := by rw [fdV, c2]; rfl
      simp only [e]
      first | done | rfl
    · have e : fdV f (ft i) (fc i) gt gc (q + 1) = (eqB (gt q) (ft i) && (gc q == fc i && true)) := by rw [fdV, c2, Bool.and_true]; rfl
      simp only [e]
      first | done | rfl
  · have c1 := of_decide_eq_false c1
    have : q = n := by omega
    subst this
    refine good_out ⟨_, Hsim.refl _, ?_⟩
    rw [if_pos rfl]
    exact hk
theorem sumSoB (m : Nat) (b : Nat → Int) (k : Nat) (ft : Nat → ByteArray) (fc : Nat → Int) (n : Nat) (gt : Nat → ByteArray) (gc : Nat → Int) (x : Nat) (ht : Nat → ByteArray) (hc : Nat → Int) (hk0 : k ≤ 2 ^ 40) (hn : n ≤ 2 ^ 40) (hin : ∀ i, i < k → erB (ft i) (fc i) = true → ∃ q, q < n ∧ gt q = ft i ∧ gc q = fc i) :
    SumOk Tryz.prog 1 (.block 2 (.loop (loopAt 2 fSo))) (atS 151 (lvSoB .normal) 1 [.own 1 k, .sl 2 2 0 0 n (some n), .sl 3 2 0 0 x (some x), .v (.bool true), .v (i64 (0 : Nat))] (hpSo m b k ft fc n gt gc x ht hc) (fun K => K .normal (mkT 0 151 [(4, .sl 1 2 0 0 n (some n)), (8, .sl 2 2 0 0 x (some x)), (9, .v (.bool true))]) [.row false m 1 (rowB b) 5, .row true n 2 (rowE gt gc) 27, .row true x 2 (rowE ht hc) 27])) := by
  refine for_at gmSoR_ok (n := 100) (m := 1) (lv := lvSoB) (fun i => [.own 1 k, .sl 2 2 0 0 n (some n), .sl 3 2 0 0 x (some x), .v (.bool true), .v (i64 i)]) (fun _ => hpSo m b k ft fc n gt gc x ht hc) (fun _ => True) k (fun i => if i < k then lamSoC m b k ft fc n gt gc x ht hc i (!erB (ft i) (fc i)) true else oneL 4 errS) (lv3_ris rfl rfl rfl) (Nat.le_refl _) trivial fun K Q hk i _ him => ?_
  by_cases hlt : i < k
  · rw [if_pos hlt]
    have hf : fdV (!erB (ft i) (fc i)) (ft i) (fc i) gt gc n = true := by
      refine fdV_yes ?_
      cases h : erB (ft i) (fc i) with
      | false => exact .inl rfl
      | true => exact .inr (hin i hlt h)
    have hC := sumSoC m b k ft fc n gt gc x ht hc i (!erB (ft i) (fc i)) hn hlt
    rw [hf] at hC
    refine ⟨lamC (by kernel_rfl) hC, ?_⟩
    rw [rndSoB]
    refine good_cond (fun c1 => ?_) fun c1 => absurd (of_decide_eq_false c1) (by omega)
    simp only [Int.toNat_natCast, Nat.zero_add]
    rw [wr_in (x := (i : Int) + 1) (by omega)]
    refine good_needs ?_ (good_out ⟨i + 1, ⟨rfl, hlt, trivial⟩, rfl, Hsim.refl _⟩)
    simp only [ob_cons, ob_nil, and_true, decide_eq_true_eq]
    exact ⟨by omega, by omega, chk_of ⟨trivial, Hsim.refl _⟩⟩
  · rw [if_neg hlt]
    refine ⟨lamC (c := loopAt 4 fSo) (by kernel_rfl) errS_ok, ?_⟩
    have : i = k := by omega
    subst this
    rw [rndSoE]
    refine good_cond (fun c1 => absurd (of_decide_eq_true c1) (by omega)) fun c1 => good_out ⟨_, Hsim.refl _, ?_⟩
    rw [if_pos rfl]
    exact hk

end Go.Proofs.YtcadinbahmliiaaGreatDoor

/- FnSort where no entry is right: trees. Conditions: bytes. -/
namespace Go.Proofs.YtcadinbahmliiaaGreatDoor
open Go.RowKit
set_option maxRecDepth 100000

abbrev nilA0 : AV := .v (.slice none 0 0)
abbrev hpSn (m : Nat) (b : Nat → Int) (k : Nat) (ft : Nat → ByteArray) (fc : Nat → Int) : List AB := [.row false m 1 (rowB b) 5, .row true k 2 (rowE ft fc) 27]
theorem rndSnA (er : ByteArray → Int → Bool) (m : Nat) (b : Nat → Int) (k : Nat) (ft : Nat → ByteArray) (fc : Nat → Int) (i : Nat) : execC Tryz.prog (gmSoR er) 100 noLam (loopAt 0 fSo) (mkT 0 151 ((lvSoA .normal).zip [.own 1 k, nilA0, nilA0, .v (.bool true), .v (i64 i)])) (hpSn m b k ft fc) (leafV 151 lvSoA 1)
    = Res.out (Ex.exit (0 : Nat)) [AV.own 1 k, AV.v (Value.slice none (0 : Nat) (0 : Nat)), AV.v (Value.slice none (0 : Nat) (0 : Nat)), AV.v (.bool true)] [AB.row false m 1 (rowB b) 5, AB.row true k 2 (rowE ft fc) 27] := by kernel_rfl

theorem rndSnC (er : ByteArray → Int → Bool) (m : Nat) (b : Nat → Int) (k : Nat) (ft : Nat → ByteArray) (fc : Nat → Int) (i : Nat) (f : Bool) (q : Nat) : execC Tryz.prog (gmSoR er) 100 noLam (loopAt 4 fSo) (mkT 0 151 ((lvSoC .normal).zip [.own 1 k, nilA0, nilA0, .v (.bool true), .v (i64 i), .v (.bool f), .v (i64 q)])) (hpSn m b k ft fc) (leafV 151 lvSoC 1)
    = Res.out (Ex.exit (4 : Nat)) [AV.own 1 k, AV.v (Value.slice none (0 : Nat) (0 : Nat)), AV.v (Value.slice none (0 : Nat) (0 : Nat)), AV.v (.bool true), AV.v (.int .i64 (↑i : Int)), AV.v (.bool f)] [AB.row false m 1 (rowB b) 5, AB.row true k 2 (rowE ft fc) 27] := by kernel_rfl

noncomputable abbrev lamSnC (m : Nat) (b : Nat → Int) (k : Nat) (ft : Nat → ByteArray) (fc : Nat → Int) (i : Nat) (f : Bool) : Nat → Option Sum := oneL 4 (atS 151 (lvSoC .normal) 1 [.own 1 k, nilA0, nilA0, .v (.bool true), .v (i64 i), .v (.bool f), .v (i64 (0 : Nat))] (hpSn m b k ft fc) (fun K => K .normal (mkT 0 151 [(3, .own 1 k), (4, nilA0), (8, nilA0), (9, .v (.bool true)), (11, .v (i64 i)), (12, .v (.bool f))]) (hpSn m b k ft fc)))
theorem rndSnB_h (er : ByteArray → Int → Bool) (m : Nat) (b : Nat → Int) (k : Nat) (ft : Nat → ByteArray) (fc : Nat → Int) (i : Nat) (f : Bool) (u0 : _) (hu0 : (AV.v (Value.slice none (0 : Nat) (0 : Nat))) = u0) (u1 : _) (hu1 : (AB.row false m 1 (rowB b) 5) = u1) (u2 : _) (hu2 : (↑i : Int) = u2) (u3 : _) (hu3 : (AV.v (.bool true)) = u3) (u4 : _) (hu4 : [u1, AB.row true k 2 (rowE ft fc) 27] = u4) : execC Tryz.prog (gmSoR er) 100 (lamSnC m b k ft fc i f) (loopAt 2 fSo) (mkT 0 151 ((lvSoB .normal).zip [.own 1 k, nilA0, nilA0, .v (.bool true), .v (i64 i)])) (hpSn m b k ft fc) (leafV 151 lvSoB 1)
    = bif decide (u2 < (↑k : Int)) then needs [decide (u2 < (↑k : Int)), decide (Int.toNat u2 < k), chk ([AV.own 1 k, u0, u0, u3, AV.v (.int .i64 u2), AV.v (.bool !er (ft (Int.toNat u2)) (fc (Int.toNat u2))), AV.v (.int .i64 0)] = [AV.own 1 k, nilA0, nilA0, u3, AV.v (.int .i64 u2), AV.v (.bool f), AV.v (.int .i64 0)] ∧ Hsim u4 (hpSn m b k ft fc))] (bif !f then Res.out .ret [AV.v (.bool false)] [u1] else Res.out .normal [AV.own 1 k, u0, u0, u3, AV.v (.int .i64 (IntKind.wrap .i64 (u2 + (1 : Int))))] u4) else Res.out (Ex.exit (2 : Nat)) [u0, u0, u3] [u1] := by
  subst hu4 hu3 hu2 hu1 hu0
  kernel_rfl
theorem rndSnB (er : ByteArray → Int → Bool) (m : Nat) (b : Nat → Int) (k : Nat) (ft : Nat → ByteArray) (fc : Nat → Int) (i : Nat) (f : Bool) : type_of% (rndSnB_h er m b k ft fc i f _ rfl _ rfl _ rfl _ rfl _ rfl) := rndSnB_h er m b k ft fc i f _ rfl _ rfl _ rfl _ rfl _ rfl

theorem rndSnE (er : ByteArray → Int → Bool) (m : Nat) (b : Nat → Int) (k : Nat) (ft : Nat → ByteArray) (fc : Nat → Int) (i : Nat) : execC Tryz.prog (gmSoR er) 100 (oneL 4 errS) (loopAt 2 fSo) (mkT 0 151 ((lvSoB .normal).zip [.own 1 k, nilA0, nilA0, .v (.bool true), .v (i64 i)])) (hpSn m b k ft fc) (leafV 151 lvSoB 1)
    = bif decide ((↑i : Int) < (↑k : Int)) then needs [decide ((↑i : Int) < (↑k : Int)), decide (Int.toNat (↑i : Int) < k)] Res.err else Res.out (Ex.exit (2 : Nat)) [AV.v (Value.slice none (0 : Nat) (0 : Nat)), AV.v (Value.slice none (0 : Nat) (0 : Nat)), AV.v (.bool true)] [AB.row false m 1 (rowB b) 5] := by kernel_rfl

noncomputable abbrev lamSn (m : Nat) (b : Nat → Int) (k : Nat) (ft : Nat → ByteArray) (fc : Nat → Int) : Nat → Option Sum := addL 0 (atS 151 (lvSoA .normal) 1 [.own 1 k, nilA0, nilA0, .v (.bool true), .v (i64 (0 : Nat))] (hpSn m b k ft fc) (fun K => K .normal (mkT 0 151 [(3, .own 1 k), (4, nilA0), (8, nilA0), (9, .v (.bool true))]) (hpSn m b k ft fc)))
  (oneL 2 (atS 151 (lvSoB .normal) 1 [.own 1 k, nilA0, nilA0, .v (.bool true), .v (i64 (0 : Nat))] (hpSn m b k ft fc) (fun K => K .normal (mkT 0 151 [(4, nilA0), (8, nilA0), (9, .v (.bool true))]) [.row false m 1 (rowB b) 5])))
def gmSn (dk : Nat → (Nat → Int) → Nat) (dt : Nat → (Nat → Int) → Nat → ByteArray) (dc : Nat → (Nat → Int) → Nat → Int) (er : ByteArray → Int → Bool) (L : Nat → (Nat → ByteArray) → (Nat → Int) → List (ByteArray × Int)) : Gam :=
  ext (ext (ext (ext (ext g0 26 (specR md_co (FdrO fun m b => frE (dk m b) (dt m b) (dc m b)))) 22 (specQ [] (FbiN L))) 20 (specR md_bs (FbsO L))) 27 (specR md_eqES F_eqES)) 13 (specR [.val] (FerO er))
theorem lawSn_h (dk : Nat → (Nat → Int) → Nat) (dt : Nat → (Nat → Int) → Nat → ByteArray) (dc : Nat → (Nat → Int) → Nat → Int) (er : ByteArray → Int → Bool) (L : Nat → (Nat → ByteArray) → (Nat → Int) → List (ByteArray × Int)) (m : Nat) (b : Nat → Int) (k : Nat) (ft : Nat → ByteArray) (fc : Nat → Int) (u0 : _) (hu0 : (itB fun q ↦ rowB b ((0 : Nat) + q)) = u0) (u2 : _) (hu2 : (AB.row false m 1 (rowB b) 5) = u2) (u3 : _) (hu3 : (AV.v (.bool true)) = u3) (u4 : _) (hu4 : (AV.v (Value.slice none (0 : Nat) (0 : Nat))) = u4) (u5 : _) (hu5 : (AV.v (.int .i64 0)) = u5) (u6 : _) (hu6 : (rowE (dt m u0) (dc m u0)) = u6) (u8 : _) (hu8 : (!decide (dk m u0 > (50 : Nat))) = u8) (u9 : _) (hu9 : (dk m u0) = u9) (u10 : _) (hu10 : (Res.out .ret [u3] [u2]) = u10) (u11 : _) (hu11 : [AV.own 1 k, nilA0, nilA0, u3, u5] = u11) (u1 : _) (hu1 : (List.length (L u9 (itT u6) (itC u6))) = u1) (u7 : _) (hu7 : [Nat.ble u1 u1, Nat.beq u1 (0 : Nat)] = u7) : execF Tryz.prog (gmSn dk dt dc er L) (lamSn m b k ft fc) 100 fSo [.sl 0 1 0 0 m none] [.row false m 1 (rowB b) 5] (packK 1)
    = bif decide ((m : Int) > (1048576 : Int)) then Res.out .ret [u3] [u2] else needs [Nat.ble ((0 : Nat) + m) m, okB m fun q ↦ rowB b ((0 : Nat) + q), decide (m ≤ (2097152 : Nat)), Nat.ble u9 u9, allE u9 u6, Nat.beq u1 (0 : Nat), Nat.ble u9 u9, allE u9 u6] (bif !u8 == !decide (dk m u0 > (50 : Nat)) then bif u8 == !decide (dk m u0 > (50 : Nat)) then needs u7 u10 else Res.out .ret [AV.v (.bool false)] [u2] else needs u7 (bif !!decide (dk m u0 > (50 : Nat)) then bif u8 == !decide (dk m u0 > (50 : Nat)) then needs u7 u10 else Res.out .ret [AV.v (.bool false)] [u2] else needs [chk ([AV.own 1 u9, u4, u4, u3, u5] = u11 ∧ Hsim [u2, AB.row true u9 2 u6 27] (hpSn m b k ft fc)), chk ([AV.own 1 k, u4, u4, u3, u5] = u11 ∧ Hsim [u2, AB.row true k 2 (rowE ft fc) 27] (hpSn m b k ft fc))] u10)) := by
  subst hu7 hu1 hu11 hu10 hu9 hu8 hu6 hu5 hu4 hu3 hu2 hu0
  kernel_rfl
theorem lawSn (dk : Nat → (Nat → Int) → Nat) (dt : Nat → (Nat → Int) → Nat → ByteArray) (dc : Nat → (Nat → Int) → Nat → Int) (er : ByteArray → Int → Bool) (L : Nat → (Nat → ByteArray) → (Nat → Int) → List (ByteArray × Int)) (m : Nat) (b : Nat → Int) (k : Nat) (ft : Nat → ByteArray) (fc : Nat → Int) : type_of% (lawSn_h dk dt dc er L m b k ft fc _ rfl _ rfl _ rfl _ rfl _ rfl _ rfl _ rfl _ rfl _ rfl _ rfl _ rfl _ rfl) := lawSn_h dk dt dc er L m b k ft fc _ rfl _ rfl _ rfl _ rfl _ rfl _ rfl _ rfl _ rfl _ rfl _ rfl _ rfl _ rfl

end Go.Proofs.YtcadinbahmliiaaGreatDoor
