/- The deferred function of answer: what it makes of a panic. No conditions. -/
import Derived.Test.YtddhmidegldhdaaGreatDoorZD0
import Derived.Test.YtddhmidegldhdaaGreatDoorZD1
import Derived.Test.YtddhmidegldhdaaGreatDoorZD2
import Derived.Test.YtddhmidegldhdaaGreatDoorZD3
import Derived.Test.YtddhmidegldhdaaGreatDoorZD4
import Derived.Test.YtddhmidegldhdaaGreatDoorZD5
import Derived.Test.YtddhmidegldhdaaGreatDoorRows
import Derived.WalkKit
import Derived.ProofKit
import Derived.OpenShut
import Derived.Carry
import Derived.Deep.Slices
import Derived.Laws.Strings
import Derived.LoopTactic
import Derived.Lib.ConvBytes
import Derived.Shelf.Small.Wraps
import Derived.OwnWalk
import Derived.Lib.ItoaLen
import Derived.LaidEql
import Derived.Stop.Asserts
import Derived.RowKitTokens
import Derived.Laws.OwnMore
import Derived.Below
import Derived.Tactics2
import Derived.Defers
import Derived.Recover
import Derived.Laws.Pointers
/- The frame of a law with one slice as its argument: from what its run comes to to the given statement. Conditions: those that each theorem names. -/
namespace Go.Proofs.YtddhmidegldhdaaGreatDoor
open Go.ChangeShapes Go.WideShapes Go.ChangeAt Go.RowKit Go.Deep

theorem own : ownKnob Tryz.prog.godebug = none := by kernel_rfl
theorem laidOut : laidOutB Tryz.prog = true := by kernel_rfl

def SaysYes : Ex → List AV → List AB → Prop := fun _ l _ => l = [.v (.bool true)]

section
variable {H : Type} {enc : TypeId × Value → H} {P : Program}
theorem post_below {f : Func} {s : ChangeSpec} {apart fresh handsOn again : Bool} {W W' : World} {args : Array Value} {v : Value} {ds gs : List (DataW H)} {before pa pv : List MemPlace}
    (hW : DataW.Whole enc P f.params.toList s.vars apart W args.toList ds gs before)
    (hres : ∀ (b : Nat) (sp : Nat → Bool) (hd : Bool), DataW.TrodAll enc P W' b sp hd f.resultTypes.toList (v.resultList f.resultTypes.size) (s.fn H (ds ++ gs)).results [])
    (hargs : ∀ sp : Nat → Bool, (∀ p ∈ before, sp p.block = true) → DataW.TrodAll enc P W' 0 sp true f.params.toList args.toList (s.fn H (ds ++ gs)).args pa)
    (hvars : ∀ sp : Nat → Bool, (∀ p ∈ before, sp p.block = true) → DataW.TrodVars enc P W' sp s.vars (s.fn H (ds ++ gs)).vars pv)
    (hps : before = pa ++ pv) (hb : Below W.heap.size W W')
    (hok : ∀ (j : Nat) (t : TypeId) (r : Value), f.resultTypes[j]? = some t → (v.resultList f.resultTypes.size)[j]? = some r → Value.okWide P W' .any 0 t r) :
    s.post enc P f apart fresh handsOn again W args v W' := by
  have hlt : ∀ p ∈ before, p.block < W.heap.size := fun p hp => hW.lt p hp
  have hold : ∀ p ∈ before, (fun b => decide (b < W.heap.size)) p.block = true := fun p hp => by simpa using hlt p hp
  refine ⟨ds, gs, before, [], pa, pv, hW, hres _ _ _, hargs _ hold, hvars _ hold, World.keptBut_mono (fun p hp => ⟨hp, ?_⟩) (hb.frame (· ∈ before)), fun _ => ?_⟩
  · rw [hps, List.mem_append] at hp
    exact Or.inr hp
  · obtain ⟨_, _, _, _, _, hz, hn⟩ := hW
    refine ⟨hok, _, _, ([] ++ pa) ++ pv, ⟨[] ++ pa, pv, trodAll_append (hargs _ (fun _ _ => rfl)) (hres _ _ _), hvars _ (fun _ _ => rfl), rfl, ?_, ?_⟩, ?_⟩
    · intro b off hp
      have hin : MemPlace.cell b off ∈ before := by rw [hps]; simpa using hp
      rw [hb.frozen (hlt _ hin)]
      exact hz b off hin
    · intro ha
      have := hn ha
      rw [hps] at this
      simpa using this
    · intro p hp _
      rw [hps]
      simpa using hp

theorem arg_row {W : World} {base s : Nat} {t e : TypeId} {v : Value} {d : DataW H} {p : List MemPlace} (ht : P.underlying t = some (.slice e)) (hc : P.cellsOf e = s) (hs : 0 < s) (hv : Value.okWide P W .any base t v)
    (h : DataW.Trod enc P W 0 (fun _ => true) true t v d p) (row : (Nat → Int) → List Value) (ok : (Nat → Int) → Prop) (hrow : ∀ f, (row f).length = s ∧ ∀ x ∈ row f, x.oneCell' = true)
    (he : ∀ n cs x, cs.length = s → DataW.trod enc P W 0 (fun _ => true) true n e cs = some x → ∃ f, ok f ∧ cs = row f) (tt : TypeId) (htab : TabOk (fun k => W.heap.size ≤ k) W := by intro x hx; simp [tabG] at hx) :
    ∃ (m : Nat) (ν : Nu) (g : Nat → Nat → Int), m ≤ 9223372036854775807 ∧ (∀ j, j < m → ok (g j)) ∧ VR ν (.sl 0 s 0 0 m none) v ∧ RH (fun k => W.heap.size ≤ k) ν (fun b => ([AB.row false m s (fun j => row (g j)) tt] : List AB).getD b .gone) W ∧ ∀ i b, ν i = some b → i < 1 := by
  obtain ⟨pt, len, cap, rfl⟩ := okWide_slice ht hv
  obtain ⟨fuel, hf⟩ := h
  have empty : ∀ c, VR (fun _ => none) (.sl 0 s 0 0 0 none) (.slice pt 0 c) → ∃ (m : Nat) (ν : Nu) (g : Nat → Nat → Int), m ≤ 9223372036854775807 ∧ (∀ j, j < m → ok (g j)) ∧ VR ν (.sl 0 s 0 0 m none) (.slice pt 0 c) ∧ RH (fun k => W.heap.size ≤ k) ν (fun b => ([AB.row false m s (fun j => row (g j)) tt] : List AB).getD b .gone) W ∧ ∀ i b, ν i = some b → i < 1 := by
    intro c hvr
    refine ⟨0, fun _ => none, fun _ _ => 0, by omega, fun j hj => by omega, hvr, ⟨fun i => ?_, fun i j b b' _ _ _ h => by simp at h, fun i b _ h => by simp at h, (fun i b h => by simp at h), htab⟩, fun i b h => by simp at h⟩
    match i with
    | 0 => exact .inl ⟨rfl, rfl, rfl⟩
    | n + 1 => trivial
  rcases open_slice ht hf with ⟨h0, _⟩ | ⟨a, len', cap', m, n, D, Pl, hcs, hb, hl, hm, hmm, hx, hi⟩
  · simp only [Value.cells] at h0
    simp at h0
    obtain ⟨rfl, rfl, rfl⟩ := h0
    exact empty 0 (by simp only [VR]; exact ⟨none, 0, rfl, by simp, Nat.le_refl _, by omega⟩)
  · simp only [Value.cells] at hcs
    simp at hcs
    obtain ⟨rfl, rfl, rfl⟩ := hcs
    simp only [if_true] at hmm
    subst hmm
    unfold maxLen at hm
    by_cases hz : m = 0
    · subst hz
      have : len = 0 := by omega
      subst this
      exact empty 0 (by simp only [VR]; exact ⟨some a, 0, rfl, by simp, Nat.le_refl _, by omega⟩)
    · have cells : ∀ i, ∃ f, i < m → ok f ∧ ∀ k, k < s → W.cell? ((a.add (i * s)).add k) = (row f)[k]? := by
        intro i
        by_cases him : i < m
        · obtain ⟨cs', h1, h2⟩ := hi i him
          rw [hc] at h1
          obtain ⟨_, h3, h4⟩ := World.cells?_some h1
          obtain ⟨f, h5, h6⟩ := he n cs' _ h3 h2
          exact ⟨f, fun _ => ⟨h5, fun k hk => by rw [h4 k hk, h6]⟩⟩
        · exact ⟨fun _ => 0, fun h => absurd h him⟩
      have get : ∀ i k, i < m → k < s → ∃ x, (row (Classical.choose (cells i)))[k]? = some x := fun i k _ hk => by
        have := (hrow (Classical.choose (cells i))).1
        exact ⟨_, List.getElem?_eq_getElem (by omega)⟩
      obtain ⟨x0, hx0⟩ := get 0 0 (by omega) hs
      have c0 := ((Classical.choose_spec (cells 0)) (by omega)).2 0 hs
      rw [hx0, Nat.zero_mul] at c0
      have hspot : a.spot = none := by
        have := World.cell?_spot c0
        simpa [Addr.add] using this
      obtain ⟨bl, off, sp⟩ := a
      simp only at hspot
      subst hspot
      have e0 : ((⟨bl, off, none⟩ : Addr).add 0).add 0 = ⟨bl, off, none⟩ := by simp [Addr.add]
      rw [e0] at c0
      obtain ⟨o, ho⟩ : ∃ o, W.heap[bl]? = some o := by
        unfold World.cell? at c0
        split at c0
        · exact ⟨_, by assumption⟩
        · cases c0
      obtain ⟨l, t', fz, rfl⟩ : ∃ l t' fz, o = .cells (List.toArray l) t' fz := by
        unfold World.cell? at c0
        simp only [ho] at c0
        cases o with
        | cells c t' fz => exact ⟨c.toList, t', fz, by simp⟩
        | _ => cases c0
      refine ⟨len, fun i => if i = 0 then some ⟨bl, off, m⟩ else none, fun i => Classical.choose (cells i), by omega, fun j hj => ((Classical.choose_spec (cells j)) (by omega)).1, ?_, ⟨fun i => ?_, fun i j b b' hij hw _ h1 h2 => ?_, fun i b hw h1 => ?_, fun i b h1 => ?_, htab⟩, fun i b h1 => ?_⟩
      · simp only [VR]
        exact ⟨_, m, rfl, by simp, hl, fun _ => ⟨_, rfl, by simp⟩⟩
      · match i with
        | 0 =>
          refine .inr ⟨⟨bl, off, m⟩, l, t', fz, rfl, ho, fun h => by simp at h, hl, fun j hj => ⟨hrow _, fun k hk => ?_⟩⟩
          have := ((Classical.choose_spec (cells j)) (by omega)).2 k hk
          rw [← this]
          have e1 : ((⟨bl, off, none⟩ : Addr).add (j * s)).add k = ⟨bl, off + (j * s + k), none⟩ := by
            rw [addr_add, addr_add, Nat.add_assoc]
          rw [e1, cell_at ho]
        | n + 1 => trivial
      · match i with
        | 0 => simp [AB.wr] at hw
        | n + 1 => simp at h1
      · match i with
        | 0 => simp [AB.wr] at hw
        | n + 1 => simp at h1
      · match i with
        | 0 =>
          simp at h1
          subst h1
          exact (Array.getElem?_eq_some_iff.1 ho).1
        | n + 1 => simp at h1
      · match i with
        | 0 => omega
        | n + 1 => simp at h1
end

theorem yes_calls {Γ : Gam} (hΓ : GamOk Tryz.prog Γ) {Λ : Nat → Option Sum} {n : Nat} {f : FuncId} {fn : Func} {avs : List AV} {H : List AB} {ν : Nu} {vals : List Value} {w : World} (hf : Tryz.prog.funcs[f]? = some fn)
    (hL : ∀ c, fn.body = some c → LamOk Tryz.prog H.length Λ c) (h : GoodQ (execF Tryz.prog Γ Λ n fn avs H (packK H.length)) SaysYes) (hv : VRs ν avs vals) (hH : RH (fun k => w.heap.size ≤ k) ν (fun b => H.getD b .gone) w) (hdom : ∀ i b, ν i = some b → i < H.length) :
    Calls Tryz.prog f vals.toArray w fun e w' => e = .returned (.bool true) ∧ Below w.heap.size w w' := by
  refine (calls_pack hΓ mixed enters hf hL (fun k hk => hk) h.out hv hH hdom).mono ?_
  rintro e w' ⟨v, av, H', ν', rfl, hq, hvr, _, hfr, _⟩
  have : [av] = [AV.v (.bool true)] := hq
  simp only [List.cons.injEq, and_true] at this
  subst this
  simp only [VR] at hvr
  subst hvr
  exact ⟨rfl, ⟨hfr.os, hfr.tape, hfr.output, hfr.size, fun k hk => hfr.block k hk (by omega)⟩⟩

def okI (f : Nat → Int) : Prop := ∀ k, -9223372036854775808 ≤ f k ∧ f k ≤ 9223372036854775807

end Go.Proofs.YtddhmidegldhdaaGreatDoor

/- The abstract machine, 27: words for callees by their view, which may hand back what points to rows that are only read. Conditions: those of the table of callees. -/
namespace Go.Proofs.YtddhmidegldhdaaGreatDoor
open Go.RowKit

def bkK (keep : List Nat) (Hc : List AB) (base : Nat) : Nat → Option Nat := fun i => bif Nat.blt i keep.length then (bif (Hc.getD i .gone).live then keep[i]? else none) else some (base + (i - keep.length))

def fullB : List AB → List Bool
  | [] => []
  | .row false n _ _ _ :: l => decide (0 < n) :: fullB l
  | _ :: l => fullB l
theorem fullB_get : ∀ {H : List AB} {j n w : Nat} {g : Nat → List Value} {t : TypeId}, obls (fullB H) = true → H.getD j .gone = .row false n w g t → 0 < n
  | [], j, n, w, g, t, _, h => by simp at h
  | b :: H, 0, n, w, g, t, ho, h => by
    simp only [List.getD_cons_zero] at h
    subst h
    simp only [fullB, ob_cons, decide_eq_true_eq] at ho
    exact ho.1
  | b :: H, j + 1, n, w, g, t, ho, h => by
    simp only [List.getD_cons_succ] at h
    refine fullB_get (H := H) (j := j) ?_ h
    unfold fullB at ho
    split at ho
    · rename_i e; cases e
    · rename_i e; cases e; exact (ob_cons.1 ho).2
    · rename_i e; cases e; exact ho
theorem obls_app {a b : List Bool} : obls (a ++ b) = true ↔ obls a = true ∧ obls b = true := by
  simp [obls]

def specK (ros : List Bool) (F : List AV → List AB → Option HR) : Spec := fun avs H base =>
  match viewH ros avs H with
  | some q => match F q.2.1 q.2.2 with
    | some hr => match mapA (bkK q.1 q.2.2 base) hr.val, mapBs (bkK q.1 q.2.2 base) hr.out, mapBs (bkK q.1 q.2.2 base) hr.new with
      | some v, some ou, some nw => cond (Nat.beq hr.out.length q.2.2.length && hr.new.all AB.wr)
          (some { val := v, rd := q.1, put := putH q.1 q.2.2 ou, new := nw, obl := hr.obl ++ fullB q.2.2 }) none
      | _, _, _ => none
    | none => none
  | none => none

theorem specK_wk {f : FuncId} {fn : Func} {ros : List Bool} {F : List AV → List AB → Option HR} (hf : Tryz.prog.funcs[f]? = some fn) (hb : fn.body.isSome = true)
    (h : ∀ avs H hr, F avs H = some hr → obls hr.obl = true → ∃ (Γ : Gam) (H0 : List AB) (Λ : Nat → Option Sum) (n : Nat), GamOk Tryz.prog Γ ∧ Hsim H H0 ∧ (∀ c, fn.body = some c → LamOk Tryz.prog H0.length Λ c) ∧ GoodQ (execF Tryz.prog Γ Λ n fn avs H0 (packK H0.length)) (GivW hr)) : SpecOk Tryz.prog f (specK ros F) := by
  refine ⟨fun args w => enters f fn hf hb args w, fun avs H base δ ν vals w hS ho hv hbr hlt hfree hsep htab => ?_⟩
  unfold specK at hS
  split at hS
  case h_2 => cases hS
  rename_i q hq
  split at hS
  case h_2 => cases hS
  rename_i hr hF
  split at hS
  case h_2 => cases hS
  rename_i v ou nw hval hou hnw
  cases hck : (Nat.beq hr.out.length q.2.2.length && hr.new.all AB.wr) with
  | false => rw [hck] at hS; cases hS
  | true =>
  rw [hck] at hS
  simp only [cond_true, Option.some.injEq] at hS
  subst hS
  rw [Bool.and_eq_true] at hck
  have hlen := Nat.eq_of_beq_eq_true hck.1
  have hnewwr := List.all_eq_true.1 hck.2
  unfold viewH at hq
  generalize reach H 400 [] (idxAs avs) = keep at *
  split at hq
  case h_2 => cases hq
  rename_i avs' H1 hra hrb
  cases hnd : nodupB keep with
  | false => rw [hnd] at hq; cases hq
  | true =>
  rw [hnd] at hq
  simp only [cond_true, Option.some.injEq] at hq
  subst hq
  simp only at hval hou hnw hF hlen hbr hsep ho hfree ⊢
  rw [obls_app] at ho
  obtain ⟨ho, hof⟩ := ho
  obtain ⟨hl1, hg1⟩ := renBs_get hrb
  have hlHc : (roL ros H1).length = keep.length := by rw [roL_length, hl1]
  have nuAt : ∀ {j i}, keep[j]? = some i → keepNu keep ν j = ν i := fun hj => by simp [keepNu, hj]
  have ofNu : ∀ {j b}, keepNu keep ν j = some b → ∃ i, keep[j]? = some i ∧ ν i = some b := by
    intro j b hb
    unfold keepNu at hb
    split at hb
    · rename_i i hi; exact ⟨i, hi, hb⟩
    · cases hb
  have ren_marks : ∀ {b b' : AB}, renB keep b = some b' → b'.wr = b.wr ∧ b'.live = b.live := by
    intro b b' hb
    cases b with
    | cells cs t => simp only [renB, Option.map_eq_some_iff] at hb; obtain ⟨q, _, rfl⟩ := hb; exact ⟨rfl, rfl⟩
    | row => simp only [renB, Option.some.injEq] at hb; subst hb; exact ⟨rfl, rfl⟩
    | gone => simp only [renB, Option.some.injEq] at hb; subst hb; exact ⟨rfl, rfl⟩
  -- the callee's block j is the caller's block keep j
  have view : ∀ {j i}, keep[j]? = some i → ∃ b1, H1[j]? = some b1 ∧ renB keep (H.getD i .gone) = some b1 ∧ (roL ros H1)[j]? = some (roB (ros.getD j false) b1) := by
    intro j i hj
    obtain ⟨b1, e1, e2⟩ := hg1 j i hj
    exact ⟨b1, e1, e2, by rw [roL_get, e1]; rfl⟩
  have wrOf : ∀ {j i}, keep[j]? = some i → ((roL ros H1).getD j .gone).wr = true → (H.getD i .gone).wr = true := by
    intro j i hj hw
    obtain ⟨b1, _, e2, e3⟩ := view hj
    have : (roL ros H1).getD j .gone = roB (ros.getD j false) b1 := by simp [List.getD_eq_getElem?_getD, e3]
    rw [this] at hw
    rw [← (ren_marks e2).1]
    exact roB_wr hw
  have liveOf : ∀ {j i}, keep[j]? = some i → ((roL ros H1).getD j .gone).live = true → (H.getD i .gone).live = true := by
    intro j i hj hw
    obtain ⟨b1, _, e2, e3⟩ := view hj
    have : (roL ros H1).getD j .gone = roB (ros.getD j false) b1 := by simp [List.getD_eq_getElem?_getD, e3]
    rw [this, roB_live] at hw
    rw [← (ren_marks e2).2]
    exact hw
  obtain ⟨hlo, hgo⟩ := mapBs_get hou
  obtain ⟨hln, hgn⟩ := mapBs_get hnw
  have inPut : ∀ {j i}, keep[j]? = some i → ((roL ros H1).getD j .gone).wr = true → ∃ o o', hr.out[j]? = some o ∧ ou[j]? = some o' ∧ mapB (bkK keep (roL ros H1) base) o = some o' ∧ (i, o') ∈ putH keep (roL ros H1) ou := by
    intro j i hj hw
    have hjl : j < keep.length := (List.getElem?_eq_some_iff.1 hj).1
    have ho : hr.out[j]? = some (hr.out[j]'(by omega)) := List.getElem?_eq_getElem _
    obtain ⟨o', e1, e2⟩ := hgo j _ ho
    have hh : (roL ros H1)[j]? = some ((roL ros H1)[j]'(by omega)) := List.getElem?_eq_getElem _
    refine ⟨_, o', ho, e1, e2, putH_of hj hh e1 ?_⟩
    have : (roL ros H1).getD j .gone = (roL ros H1)[j]'(by omega) := by simp [List.getD_eq_getElem?_getD, hh]
    rw [← this]; exact hw
  let M : Nat → Prop := fun k => w.heap.size ≤ k ∨ ∃ j b, ((roL ros H1).getD j .gone).wr = true ∧ keepNu keep ν j = some b ∧ b.n = k
  have hRH : RH M (keepNu keep ν) (fun b => (roL ros H1).getD b .gone) w := by
    refine ⟨fun j => ?_, fun i j b b' hne hw hlv hb hb' => ?_, fun i b hw hb => .inr ⟨i, b, hw, hb, rfl⟩, fun i b hb => ?_, htab.mono ?_⟩
    · cases hj : keep[j]? with
      | none =>
        have : (roL ros H1).getD j .gone = .gone := by
          rw [List.getD_eq_getElem?_getD, List.getElem?_eq_none]
          · rfl
          · rw [hlHc]
            exact List.getElem?_eq_none_iff.1 hj
        simp only [this]
        trivial
      | some i =>
        obtain ⟨b1, e1, e2, e3⟩ := view hj
        have : (roL ros H1).getD j .gone = roB (ros.getD j false) b1 := by simp [List.getD_eq_getElem?_getD, e3]
        simp only [this]
        refine roB_br ?_
        have hbi := hbr i (List.mem_of_getElem? hj)
        have hν := nuAt hj
        cases hi : H.getD i .gone with
        | cells cs t =>
          rw [hi] at e2 hbi
          simp only [renB, Option.map_eq_some_iff] at e2
          obtain ⟨cs', h1, h2⟩ := e2
          rw [← h2]
          obtain ⟨b, l, g1, g2, g3, g4⟩ := hbi
          exact ⟨b, l, by rw [hν]; exact g1, g2, g3, g4.ren h1⟩
        | row rw' n wd g t =>
          rw [hi] at e2 hbi
          simp only [renB, Option.some.injEq] at e2
          rw [← e2]
          rcases hbi with ⟨g1, g2, g3⟩ | ⟨b, l, t', fz, g1, g2⟩
          · exact .inl ⟨g1, g2, by rw [hν]; exact g3⟩
          · exact .inr ⟨b, l, t', fz, by rw [hν]; exact g1, g2⟩
        | gone =>
          rw [hi] at e2
          simp only [renB, Option.some.injEq] at e2
          rw [← e2]
          trivial
    · obtain ⟨i', hi, e1⟩ := ofNu hb
      obtain ⟨j', hj, e2⟩ := ofNu hb'
      obtain ⟨_, o', _, _, _, hp⟩ := inPut hi hw
      refine hsep i' o' j' b b' hp (List.mem_of_getElem? hj) (fun e => ?_) (liveOf hj hlv) e1 e2
      subst e
      exact hne (nodupB_ne hnd i j i' hi hj)
    · obtain ⟨i', _, e1⟩ := ofNu hb
      exact hlt i' b e1
    · rintro k _ (hk | ⟨j, b, hw, hb, rfl⟩)
      · exact .inl hk
      · obtain ⟨i', hi, e1⟩ := ofNu hb
        obtain ⟨_, o', _, _, _, hp⟩ := inPut hi hw
        exact .inr ⟨i', b, _, hp, e1, rfl⟩
  obtain ⟨Γ, H0, Λ, n, hΓ, hsim, hL, hG⟩ := h avs' (roL ros H1) hr hF ho
  have hl0 : H0.length = keep.length := by rw [← hsim.length, hlHc]
  have hdom0 : ∀ i b, keepNu keep ν i = some b → i < H0.length := by
    intro i b hb
    obtain ⟨i', hi, _⟩ := ofNu hb
    rw [hl0]
    exact (List.getElem?_eq_some_iff.1 hi).1
  refine (calls_pack hΓ mixed enters hf hL (fun k hk => Or.inl hk) hG.out (hv.ren hra) (hRH.sim hsim) hdom0).mono ?_
  rintro e w' ⟨vv, av, He, ν', rfl, ⟨av2, hav, hwk, hHe⟩, hvr, hRH', hfr, hle, hdom'⟩
  simp only [List.cons.injEq, and_true] at hav
  subst hav
  have hvr := hwk _ _ _ _ hRH' hvr
  have hRH2 := hRH'.sim hHe
  have hHl : He.length = keep.length + hr.new.length := by rw [hHe.length, List.length_append, hlen, hlHc]
  -- a block that may be written has a place
  have wrNu : ∀ {j : Nat}, ((roL ros H1).getD j .gone).wr = true → ∃ b, keepNu keep ν j = some b := by
    intro j hw
    have : BR (keepNu keep ν) j ((roL ros H1).getD j .gone) w := hRH.br j
    cases hb : (roL ros H1).getD j .gone with
    | cells cs t => rw [hb] at this; obtain ⟨b, l, e1, _⟩ := this; exact ⟨b, e1⟩
    | row rw' n wd g t =>
      rw [hb] at this hw
      rcases this with ⟨e1, _⟩ | ⟨b, l, t', fz, e1, _⟩
      · simp only [AB.wr] at hw
        rw [e1] at hw
        cases hw
      · exact ⟨b, e1⟩
    | gone => rw [hb] at hw; cases hw
  have liveNu : ∀ {j : Nat}, ((roL ros H1).getD j .gone).live = true → ∃ b, keepNu keep ν j = some b := by
    intro j hw
    have : BR (keepNu keep ν) j ((roL ros H1).getD j .gone) w := hRH.br j
    cases hb : (roL ros H1).getD j .gone with
    | cells cs t => rw [hb] at this; obtain ⟨b, l, e1, _⟩ := this; exact ⟨b, e1⟩
    | row rw' n wd g t =>
      rw [hb] at this
      rcases this with ⟨e1, e2, _⟩ | ⟨b, l, t', fz, e1, _⟩
      · subst e1
        have := fullB_get hof hb
        omega
      · exact ⟨b, e1⟩
    | gone => rw [hb] at hw; cases hw
  let ν2 : Nu := fun i => match ν i with
    | some b => some b
    | none => if base ≤ i ∧ i < base + nw.length then ν' (keep.length + (i - base)) else none
  have n2old : ∀ {i b}, ν i = some b → ν2 i = some b := fun {i b} h => by simp only [ν2, h]
  have n2new : ∀ {j : Nat}, j < nw.length → ν2 (base + j) = ν' (keep.length + j) := fun {j} hj => by
    have h0 := hfree j hj
    have h1 : ν2 (base + j) = if base ≤ base + j ∧ base + j < base + nw.length then ν' (keep.length + (base + j - base)) else none := by
      show (match ν (base + j) with | some b => some b | none => if base ≤ base + j ∧ base + j < base + nw.length then ν' (keep.length + (base + j - base)) else none) = _
      rw [h0]
    rw [h1, if_pos ⟨by omega, by omega⟩, Nat.add_sub_cancel_left]
  have mp : ∀ i i' b, bkK keep (roL ros H1) base i = some i' → ν' i = some b → ν2 i' = some b := by
    intro i i' b h1 h2
    unfold bkK at h1
    cases hc : Nat.blt i keep.length with
    | true =>
      rw [hc, cond_true] at h1
      cases hw : ((roL ros H1).getD i .gone).live with
      | false => rw [hw] at h1; cases h1
      | true =>
        rw [hw, cond_true] at h1
        obtain ⟨b0, hb0⟩ := liveNu hw
        have := hle _ _ hb0
        rw [h2] at this
        cases this
        rw [nuAt h1] at hb0
        exact n2old hb0
    | false =>
      rw [hc, cond_false, Option.some.injEq] at h1
      subst h1
      have hge : ¬ i < keep.length := fun hl => by rw [← Nat.blt_eq] at hl; rw [hl] at hc; cases hc
      have hd := hdom' i b h2
      have e : i = keep.length + (i - keep.length) := by omega
      rw [n2new (by rw [hln]; omega), ← e]
      exact h2
  have outBR : ∀ {j : Nat} {o : AB}, hr.out[j]? = some o → BR ν' j o w' := by
    intro j o hj
    have := hRH2.br j
    have hjl : j < hr.out.length := (List.getElem?_eq_some_iff.1 hj).1
    simp only [List.getD_eq_getElem?_getD, List.getElem?_append_left hjl, hj, Option.getD_some] at this
    exact this
  have newAt : ∀ {j : Nat} {o : AB}, hr.new[j]? = some o → (hr.out ++ hr.new).getD (keep.length + j) .gone = o := by
    intro j o hj
    rw [List.getD_eq_getElem?_getD, List.getElem?_append_right (by omega)]
    have : keep.length + j - hr.out.length = j := by omega
    rw [this, hj]
    rfl
  refine ⟨vv, ν2, rfl, ⟨fun i b hb => n2old hb, fun i h1 h2 => ?_, hvr.map mp hval, fun i b hl => ?_, fun j b hj => ?_, hfr.os, hfr.tape, hfr.output, hfr.size, fun k hk hne => ?_, fun j b hj hb => ?_, fun j j' b b' hne hj hj' hb hb' => ?_⟩⟩
  · simp only [ν2, h1] at h2
    split at h2
    · assumption
    · exact (h2 rfl).elim
  · obtain ⟨j, hh, e1, e2, e3, e4⟩ := putH_mem (lookB_mem hl)
    have hw : ((roL ros H1).getD j .gone).wr = true := by simp only [List.getD_eq_getElem?_getD, e2, Option.getD_some]; exact e4
    obtain ⟨o, o', g1, g2, g3, _⟩ := inPut e1 hw
    rw [e3] at g2
    cases g2
    obtain ⟨b0, hb0⟩ := wrNu hw
    have e5 : ν2 i = ν' j := by
      rw [hle _ _ hb0]
      rw [nuAt e1] at hb0
      exact n2old hb0
    exact (outBR g1).map mp e5 g3
  · have hjl : j < nw.length := (List.getElem?_eq_some_iff.1 hj).1
    have hn : hr.new[j]? = some (hr.new[j]'(by omega)) := List.getElem?_eq_getElem _
    obtain ⟨b', e1, e2⟩ := hgn j _ hn
    rw [hj] at e1
    cases e1
    have : BR ν' (keep.length + j) ((hr.out ++ hr.new).getD (keep.length + j) .gone) w' := hRH2.br (keep.length + j)
    rw [newAt hn] at this
    exact this.map mp (n2new hjl) e2
  · refine hfr.block k hk fun hM => ?_
    rcases hM with hM | ⟨j, b, hw, hb, e⟩
    · omega
    · obtain ⟨i, hi, e1⟩ := ofNu hb
      obtain ⟨_, o', _, _, _, hp⟩ := inPut hi hw
      exact hne _ b hp e1 e
  · have hj : j < nw.length := hj
    rw [n2new hj] at hb
    refine ⟨hRH2.lt _ _ hb, ?_⟩
    have hn : hr.new[j]? = some (hr.new[j]'(by omega)) := List.getElem?_eq_getElem _
    have hwn : ((hr.out ++ hr.new).getD (keep.length + j) .gone).wr = true := by
      rw [newAt hn]
      exact hnewwr _ (List.mem_of_getElem? hn)
    rcases hRH2.own _ b hwn hb with hM | ⟨i, b0, hw, hb0, e⟩
    · exact .inl hM
    · right
      obtain ⟨i', hi, e1⟩ := ofNu hb0
      obtain ⟨o, o', g1, g2, g3, hp⟩ := inPut hi hw
      obtain ⟨o2, hl2⟩ := lookB_of hp
      refine ⟨i', b0, ?_, e1, e⟩
      have hil : i < keep.length := (List.getElem?_eq_some_iff.1 hi).1
      have hgone : o = .gone := by
        cases hlv : o.live with
        | false => cases o <;> first | rfl | cases hlv
        | true =>
          have e3 : (hr.out ++ hr.new).getD i .gone = o := by
            rw [List.getD_eq_getElem?_getD, List.getElem?_append_left (by omega), g1]
            rfl
          exact (hRH2.sep (keep.length + j) i b b0 (by omega) hwn (by rw [e3]; exact hlv) hb (hle _ _ hb0) e.symm).elim
      subst hgone
      have ho' := (mapB_marks g3).2.2 rfl
      subst ho'
      obtain ⟨j2, h2, f1, f2, f3, f4⟩ := putH_mem (lookB_mem hl2)
      have : j2 = i := nodupB_ne hnd j2 i i' f1 hi
      subst this
      rw [g2] at f3
      cases f3
      exact hl2
  · have hj : j < nw.length := hj
    have hj' : j' < nw.length := hj'
    rw [n2new hj] at hb
    rw [n2new hj'] at hb'
    have hn : hr.new[j]? = some (hr.new[j]'(by omega)) := List.getElem?_eq_getElem _
    have hn' : hr.new[j']? = some (hr.new[j']'(by omega)) := List.getElem?_eq_getElem _
    have w1 : ((hr.out ++ hr.new).getD (keep.length + j) .gone).wr = true := by
      rw [newAt hn]
      exact hnewwr _ (List.mem_of_getElem? hn)
    have w2 : ((hr.out ++ hr.new).getD (keep.length + j') .gone).live = true := by
      rw [newAt hn']
      have := hnewwr _ (List.mem_of_getElem? hn')
      revert this
      cases hr.new[j']'(by omega) <;> simp [AB.wr, AB.live]
    exact hRH2.sep (keep.length + j) (keep.length + j') b b' (by omega) w1 w2 hb hb'

theorem specK_okG {f : FuncId} {fn : Func} {ros : List Bool} {F : List AV → List AB → Option HR} (hf : Tryz.prog.funcs[f]? = some fn) (hb : fn.body.isSome = true)
    (h : ∀ avs H hr, F avs H = some hr → obls hr.obl = true → ∃ (Γ : Gam) (H0 : List AB) (Λ : Nat → Option Sum) (n : Nat), GamOk Tryz.prog Γ ∧ Hsim H H0 ∧ (∀ c, fn.body = some c → LamOk Tryz.prog H0.length Λ c) ∧ GoodQ (execF Tryz.prog Γ Λ n fn avs H0 (packK H0.length)) (GivH hr)) : SpecOk Tryz.prog f (specK ros F) :=
  specK_wk hf hb fun avs H hr hF ho => by
    obtain ⟨Γ, H0, Λ, n, h0, h1, h2, h3⟩ := h avs H hr hF ho
    exact ⟨Γ, H0, Λ, n, h0, h1, h2, ⟨res_mono (fun e l He ⟨h4, h5⟩ => ⟨_, h4, fun _ _ _ _ _ hv => hv, h5⟩) h3.out⟩⟩
theorem specK_ok {Γ : Gam} (hΓ : GamOk Tryz.prog Γ) {f : FuncId} {fn : Func} {ros : List Bool} {F : List AV → List AB → Option HR} (hf : Tryz.prog.funcs[f]? = some fn) (hb : fn.body.isSome = true)
    (h : ∀ avs H hr, F avs H = some hr → obls hr.obl = true → ∃ (H0 : List AB) (Λ : Nat → Option Sum) (n : Nat), Hsim H H0 ∧ (∀ c, fn.body = some c → LamOk Tryz.prog H0.length Λ c) ∧ GoodQ (execF Tryz.prog Γ Λ n fn avs H0 (packK H0.length)) (GivH hr)) : SpecOk Tryz.prog f (specK ros F) :=
  specK_okG hf hb fun avs H hr hF ho => let ⟨H0, Λ, n, h1, h2, h3⟩ := h avs H hr hF ho; ⟨Γ, H0, Λ, n, hΓ, h1, h2, h3⟩

end Go.Proofs.YtddhmidegldhdaaGreatDoor

/- A reader of bytes: pick, its tree. -/
namespace Go.Proofs.YtddhmidegldhdaaGreatDoor
open Go.RowKit
set_option maxRecDepth 100000

abbrev rowB (b : Nat → Int) : Nat → List Value := fun j => [.int .u8 (b j)]
abbrev hpRd (l : Nat) (c : Option Nat) (p : Int) (m : Nat) (b : Nat → Int) (tr tb : TypeId) : List AB := [.cells [.sl 1 1 0 0 l c, .v (i64 p)] tr, .row false m 1 (rowB b) tb]
theorem treePk_h (l : Nat) (c : Option Nat) (p : Int) (m : Nat) (b : Nat → Int) (tr tb : TypeId) (n : Int) (u0 : _) (hu0 : (IntKind.wrap .i64 (p + (1 : Int)) - (1 : Int)) = u0) (u3 : _) (hu3 : (IntKind.wrap .i64 (IntKind.wrap .i64 (IntKind.wrap .i64 u0 * (7 : Int)) + (3 : Int))) = u3) (u4 : _) (hu4 : (IntKind.wrap .i64 u0) = u4) (u5 : _) (hu5 : (↑l : Int) = u5) (u6 : _) (hu6 : (0 : Int) = u6) (u7 : _) (hu7 : (0 : Nat) = u7) (u1 : _) (hu1 : (IntKind.wrap .i64 (IntKind.wrap .i64 (IntKind.wrap .i64 (IntKind.wrap .i64 (IntKind.wrap .i64 (b (u7 + Int.toNat (Int.tmod u4 u5))) * (131 : Int)) + IntKind.wrap .i64 (IntKind.wrap .i64 (b (u7 + Int.toNat (Int.tmod u3 u5))) * (1117 : Int))) + IntKind.wrap .i64 (IntKind.wrap .i64 u0 * (29 : Int))) + IntKind.wrap .i64 (IntKind.wrap .i64 (Int.tdiv u4 u5) * (53 : Int)))) = u1) (u2 : _) (hu2 : [AB.cells [AV.sl 1 (1 : Nat) u7 u7 l c, AV.v (.int .i64 (IntKind.wrap .i64 (p + (1 : Int))))] tr, AB.row false m 1 (rowB b) tb] = u2) : execF Tryz.prog g0 noLam 100 Tryz.f32 [.ptr 0 0 0 0, .v (i64 n)] (hpRd l c p m b tr tb) (packK 2)
    = bif decide (n < (1 : Int)) then Res.out .ret [AV.v (.int .i64 u6)] u2 else bif u5 == u6 then Res.out .ret [AV.v (.int .i64 u6)] u2 else bif decide (IntKind.wrap .i64 u0 < u5) then needs [decide (u6 ≤ IntKind.wrap .i64 u0), decide (IntKind.wrap .i64 u0 < u5), decide (u7 + Int.toNat u4 < m), !decide (n = u6)] (Res.out .ret [AV.v (.int .i64 (Int.tmod (IntKind.wrap .i64 (b (u7 + Int.toNat u4))) n))] u2) else needs [!decide (u5 = u6), decide (u6 ≤ Int.tmod u4 u5), decide (Int.tmod u4 u5 < u5), decide (u7 + Int.toNat (Int.tmod u4 u5) < m), !decide (u5 = u6), decide (u6 ≤ Int.tmod u3 u5), decide (Int.tmod u3 u5 < u5), decide (u7 + Int.toNat (Int.tmod u3 u5) < m), !decide (u5 = u6), !decide (n = u6)] (Res.out .ret [AV.v (.int .i64 (Int.tmod (IntKind.wrap .i64 (↑(BitVec.toNat (BitVec.ofInt (64 : Nat) u1 ^^^ BitVec.ofInt (64 : Nat) (IntKind.wrap .i64 (Int.tdiv u1 (64 : Int))))) : Int)) n))] u2) := by
  subst hu2 hu1 hu7 hu6 hu5 hu4 hu3 hu0
  kernel_rfl
theorem treePk (l : Nat) (c : Option Nat) (p : Int) (m : Nat) (b : Nat → Int) (tr tb : TypeId) (n : Int) : type_of% (treePk_h l c p m b tr tb n _ rfl _ rfl _ rfl _ rfl _ rfl _ rfl _ rfl _ rfl) := treePk_h l c p m b tr tb n _ rfl _ rfl _ rfl _ rfl _ rfl _ rfl _ rfl _ rfl

end Go.Proofs.YtddhmidegldhdaaGreatDoor

/- A reader of bytes: what pick returns. Conditions: bytes; the reader's place is at most 2^30. -/
namespace Go.Proofs.YtddhmidegldhdaaGreatDoor
open Go.RowKit
set_option maxRecDepth 100000

def isB : List Value → Bool
  | [.int .u8 x] => inR x 0 255
  | _ => false
def u8Qv : Value → Int
  | .int .u8 x => x
  | _ => 0
def itB (g : Nat → List Value) : Nat → Int := fun j => u8Qv ((g j).getD 0 undef)
def okB (m : Nat) (g : Nat → List Value) : Bool := (List.range m).all fun j => isB (g j)
theorem okB_get {m : Nat} {g : Nat → List Value} (h : okB m g = true) {j : Nat} (hj : j < m) : g j = rowB (itB g) j ∧ 0 ≤ itB g j ∧ itB g j ≤ 255 := by
  have h1 := List.all_eq_true.1 h j (by simpa using hj)
  unfold isB at h1
  unfold rowB itB
  split at h1
  · rename_i x e
    rw [e]
    have e2 : u8Qv ([Value.int .u8 x].getD 0 undef) = x := rfl
    rw [e2]
    unfold inR at h1
    simp only [Bool.and_eq_true, decide_eq_true_eq] at h1
    exact ⟨rfl, h1.1, h1.2⟩
  · cases h1
theorem itB_row (b : Nat → Int) : itB (rowB b) = b := rfl

def pkX (l : Nat) (b : Nat → Int) (p : Int) : Int :=
  W (W (W (W (W (b (0 + (Int.tmod p l).toNat)) * 131) + W (W (b (0 + (Int.tmod (W (W (p * 7) + 3)) l).toNat)) * 1117)) + W (p * 29)) + W (W (Int.tdiv p l) * 53))
def pkY (x : Int) : Int := W ((BitVec.ofInt 64 x ^^^ BitVec.ofInt 64 (W (Int.tdiv x 64))).toNat)
def pkR (l : Nat) (b : Nat → Int) (p n : Int) : Int :=
  bif decide (n < 1) then 0 else bif (l : Int) == 0 then 0 else bif decide (p < l) then Int.tmod (W (b (0 + p.toNat))) n else Int.tmod (pkY (pkX l b p)) n
def pkV (l : Nat) (b : Nat → Int) (p n : Int) : Int := if 0 ≤ pkR l b p n ∧ pkR l b p n < n then pkR l b p n else 0
theorem pkV_nn (l : Nat) (b : Nat → Int) (p n : Int) : 0 ≤ pkV l b p n := by unfold pkV; split <;> omega
theorem pkV_lt (l : Nat) (b : Nat → Int) (p : Int) {n : Int} (h : 1 ≤ n) : pkV l b p n < n := by unfold pkV; split <;> omega
theorem pkY_nn {x : Int} (h0 : 0 ≤ x) (h1 : x < 2 ^ 62) : 0 ≤ pkY x := by
  unfold pkY
  have e : W (Int.tdiv x 64) = x / 64 := by
    rw [Int.tdiv_eq_ediv_of_nonneg h0]
    exact w64_in (by omega) (by omega)
  rw [e, BitVec.toNat_xor, BitVec.toNat_ofInt, BitVec.toNat_ofInt]
  have : (x % (2 ^ 64 : Nat)).toNat ^^^ (x / 64 % (2 ^ 64 : Nat)).toNat < 2 ^ 62 := Nat.xor_lt_two_pow (by omega) (by omega)
  rw [w64_in (by omega) (by omega)]
  omega
theorem tmod_in {x : Int} {l : Nat} (h : 0 ≤ x) (hl : l ≠ 0) : 0 ≤ Int.tmod x l ∧ Int.tmod x l < l := by
  have : (0 : Int) < l := by omega
  exact ⟨Int.tmod_nonneg _ h, Int.tmod_lt_of_pos _ this⟩
theorem pkX_in {l m : Nat} {b : Nat → Int} {p : Int} (hb : ∀ j, j < m → 0 ≤ b j ∧ b j ≤ 255) (hl : l ≤ m) (hl0 : l ≠ 0) (h0 : 0 ≤ p) (h1 : p ≤ 2 ^ 30) : 0 ≤ pkX l b p ∧ pkX l b p < 2 ^ 62 := by
  have a1 := tmod_in h0 hl0
  have e1 : W (W (p * 7) + 3) = p * 7 + 3 := by rw [w64_in (x := p * 7) (by omega) (by omega), w64_in (by omega) (by omega)]
  have a2 := tmod_in (x := p * 7 + 3) (by omega) hl0
  have b1 := hb (0 + (Int.tmod p l).toNat) (by omega)
  have b2 := hb (0 + (Int.tmod (p * 7 + 3) l).toNat) (by omega)
  have a3 : 0 ≤ Int.tdiv p l := Int.tdiv_nonneg h0 (by omega)
  have a4 : Int.tdiv p l ≤ p := by
    rw [Int.tdiv_eq_ediv_of_nonneg h0]
    exact Int.ediv_le_self _ h0
  unfold pkX
  rw [e1]
  generalize b (0 + (Int.tmod p l).toNat) = x1 at b1
  generalize b (0 + (Int.tmod (p * 7 + 3) l).toNat) = x2 at b2
  generalize Int.tdiv p l = x3 at a3 a4
  rw [w64_in (x := x1) (by omega) (by omega), w64_in (x := x2) (by omega) (by omega), w64_in (x := x3) (by omega) (by omega), w64_in (x := x1 * 131) (by omega) (by omega), w64_in (x := x2 * 1117) (by omega) (by omega), w64_in (x := x3 * 53) (by omega) (by omega), w64_in (x := p * 29) (by omega) (by omega), w64_in (x := x1 * 131 + x2 * 1117) (by omega) (by omega), w64_in (x := x1 * 131 + x2 * 1117 + p * 29) (by omega) (by omega), w64_in (by omega) (by omega)]
  omega
theorem pkV_eq {l m : Nat} {b : Nat → Int} {p n : Int} (hb : ∀ j, j < m → 0 ≤ b j ∧ b j ≤ 255) (hl : l ≤ m) (h0 : 0 ≤ p) (h1 : p ≤ 2 ^ 30) : pkV l b p n = pkR l b p n := by
  have : pkR l b p n = 0 ∨ 0 ≤ pkR l b p n ∧ pkR l b p n < n := by
    unfold pkR
    by_cases c1 : n < 1
    · rw [decide_eq_true c1]; exact .inl rfl
    · rw [decide_eq_false c1, cond_false]
      by_cases c2 : (l : Int) = 0
      · rw [beq_iff_eq.2 c2]; exact .inl rfl
      · rw [beq_eq_false_iff_ne.2 c2, cond_false]
        by_cases c3 : p < l
        · rw [decide_eq_true c3, cond_true]
          have b1 := hb (0 + p.toNat) (by omega)
          rw [w64_in (by omega) (by omega)]
          exact .inr ⟨Int.tmod_nonneg _ b1.1, Int.tmod_lt_of_pos _ (by omega)⟩
        · rw [decide_eq_false c3, cond_false]
          have := pkX_in hb hl (by omega) h0 h1
          exact .inr ⟨Int.tmod_nonneg _ (pkY_nn this.1 this.2), Int.tmod_lt_of_pos _ (by omega)⟩
  unfold pkV
  split
  · rfl
  · omega

theorem ABeq.trans' {a b c : AB} (h1 : ABeq a b) (h2 : ABeq b c) : ABeq a c := by
  cases a with
  | row rw n w g t =>
    obtain ⟨n', g', rfl, hn, hg⟩ := h1
    obtain ⟨n2, g2, rfl, hn2, hg2⟩ := h2
    exact ⟨n2, g2, rfl, Nat.le_trans hn2 hn, fun j hj => (hg j (by omega)).trans (hg2 j hj)⟩
  | cells => cases h1; exact h2
  | gone => cases h1; exact h2
def FpkO (pk : Nat → (Nat → Int) → Int → Int → Int) : List AV → List AB → Option HR
  | [.ptr 0 0 0 0, .v (.int .i64 n)], [.cells [.sl 1 1 0 0 l c, .v (.int .i64 p)] tr, .row false m 1 g tb] => some { val := .v (.int .i64 (pk l (itB g) p n)), out := [.cells [.sl 1 1 0 0 l c, .v (.int .i64 (p + 1))] tr, .row false m 1 g tb], obl := [okB m g, decide (l ≤ m), decide (0 ≤ p), decide (p ≤ 2 ^ 30)] }
  | _, _ => none
theorem pick_good {l m : Nat} {c : Option Nat} {p : Int} {b : Nat → Int} {tr tb : TypeId} (n : Int) (hb : ∀ j, j < m → 0 ≤ b j ∧ b j ≤ 255) (h2 : l ≤ m) (h3 : 0 ≤ p) (h4 : p ≤ 2 ^ 30) :
    GoodQ (execF Tryz.prog g0 noLam 100 Tryz.f32 [.ptr 0 0 0 0, .v (i64 n)] (hpRd l c p m b tr tb) (packK 2)) (fun _ vs He => vs = [.v (i64 (pkV l b p n))] ∧ Hsim He (hpRd l c (p + 1) m b tr tb)) := by
  have e0 : IntKind.wrap IntKind.i64 (p + 1) = p + 1 := wr_in (by omega)
  have e1 : IntKind.wrap IntKind.i64 (p + 1 - 1) = p := by rw [wr_in (by omega)]; omega
  rw [treePk]
  simp only [e0, e1]
  have hv := pkV_eq (n := n) hb h2 h3 h4
  have key : ∀ x, pkR l b p n = x → [AV.v (.int .i64 x)] = [AV.v (i64 (pkV l b p n))] ∧ Hsim (hpRd l c (p + 1) m b tr tb) (hpRd l c (p + 1) m b tr tb) := by
    intro x hx
    exact ⟨by rw [hv, hx], Hsim.refl _⟩
  by_cases c1 : n < 1
  · refine good_true (decide_eq_true c1) (good_out (key _ ?_))
    rw [pkR, decide_eq_true c1]; rfl
  · refine good_false (decide_eq_false c1) ?_
    by_cases c2 : (l : Int) = 0
    · refine good_true (beq_iff_eq.2 c2) (good_out (key _ ?_))
      rw [pkR, decide_eq_false c1, beq_iff_eq.2 c2]; rfl
    · refine good_false (beq_eq_false_iff_ne.2 c2) ?_
      by_cases c3 : p < l
      · refine good_true (decide_eq_true c3) (good_needs ?_ (good_out (key _ ?_)))
        · simp only [ob_cons, ob_nil, and_true, decide_eq_true_eq, Bool.not_eq_true', decide_eq_false_iff_not]
          omega
        · rw [pkR, decide_eq_false c1, beq_eq_false_iff_ne.2 c2, decide_eq_true c3]; rfl
      · have e2 : IntKind.wrap IntKind.i64 (IntKind.wrap IntKind.i64 (p * 7) + 3) = p * 7 + 3 := by rw [wr_in (x := p * 7) (by omega), wr_in (by omega)]
        have a1 := tmod_in h3 (l := l) (by omega)
        have a2 := tmod_in (x := p * 7 + 3) (by omega) (l := l) (by omega)
        refine good_false (decide_eq_false c3) (good_needs ?_ (good_out (key _ ?_)))
        · simp only [ob_cons, ob_nil, and_true, decide_eq_true_eq, Bool.not_eq_true', decide_eq_false_iff_not, e2]
          omega
        · rw [pkR, decide_eq_false c1, beq_eq_false_iff_ne.2 c2, decide_eq_false c3]; rfl
theorem rd_sim {l m : Nat} {c : Option Nat} {p : Int} {tr tb : TypeId} {g : Nat → List Value} (h : okB m g = true) : Hsim [.cells [.sl 1 1 0 0 l c, .v (.int .i64 p)] tr, .row false m 1 g tb] (hpRd l c p m (itB g) tr tb) := .cons (ABeq.refl _) (.cons (ABeq.row fun _ hj => (okB_get h hj).1) .nil)
theorem rd_sim' {l m : Nat} {c : Option Nat} {p : Int} {tr tb : TypeId} {g : Nat → List Value} (h : okB m g = true) : Hsim (hpRd l c p m (itB g) tr tb) [.cells [.sl 1 1 0 0 l c, .v (.int .i64 p)] tr, .row false m 1 g tb] := .cons (ABeq.refl _) (.cons (ABeq.row fun _ hj => (okB_get h hj).1.symm) .nil)
theorem Hsim.trans' : ∀ {H H' H'' : List AB}, Hsim H H' → Hsim H' H'' → Hsim H H''
  | _, _, _, .nil, .nil => .nil
  | _, _, _, .cons h1 t1, .cons h2 t2 => .cons (ABeq.trans' h1 h2) (Hsim.trans' t1 t2)
theorem ok_pick : SpecOk Tryz.prog 32 (specK [] (FpkO pkV)) := by
  refine specK_ok g0_ok Tryz.func32 rfl fun avs H hr hF ho => ?_
  unfold FpkO at hF
  split at hF
  · rename_i n l c p tr m g tb
    cases hF
    simp only [ob_cons, decide_eq_true_eq] at ho
    obtain ⟨h1, h2, h3, h4, _⟩ := ho
    refine ⟨hpRd l c p m (itB g) tr tb, noLam, 100, rd_sim h1, noLam' _, ⟨res_mono (fun e vs He hq => ?_) (pick_good n (fun j hj => (okB_get h1 hj).2) h2 h3 h4).out⟩⟩
    exact ⟨hq.1, hq.2.trans' (rd_sim' h1)⟩
  · cases hF

def FpkJ (pk : Nat → (Nat → Int) → Int → Int → Int) (N q : Int) : List AV → List AB → Option HR
  | [.ptr 0 0 0 0, .v (.int .i64 n)], [.cells [.sl 1 1 0 0 l c, .v (.int .i64 p)] tr, .row false m 1 g tb] => some { val := .v (.int .i64 (bif n == N then q else pk l (itB g) p n)), out := [.cells [.sl 1 1 0 0 l c, .v (.int .i64 (p + 1))] tr, .row false m 1 g tb], obl := [okB m g, decide (l ≤ m), decide (0 ≤ p), decide (p ≤ 2 ^ 30), bif n == N then decide (pk l (itB g) p n = q) else true] }
  | _, _ => none
theorem ok_pickJ (N q : Int) : SpecOk Tryz.prog 32 (specK [] (FpkJ pkV N q)) := by
  refine specK_ok g0_ok Tryz.func32 rfl fun avs H hr hF ho => ?_
  unfold FpkJ at hF
  split at hF
  · rename_i n l c p tr m g tb
    cases hF
    simp only [ob_cons, decide_eq_true_eq] at ho
    obtain ⟨h1, h2, h3, h4, h5, _⟩ := ho
    refine ⟨hpRd l c p m (itB g) tr tb, noLam, 100, rd_sim h1, noLam' _, ⟨res_mono (fun e vs He hq => ?_) (pick_good n (fun j hj => (okB_get h1 hj).2) h2 h3 h4).out⟩⟩
    refine ⟨hq.1.trans ?_, hq.2.trans' (rd_sim' h1)⟩
    show [AV.v (i64 (pkV l (itB g) p n))] = [AV.v (.int .i64 (bif n == N then q else pkV l (itB g) p n))]
    cases hn : (n == N) with
    | false => rfl
    | true =>
      rw [hn, cond_true, decide_eq_true_eq] at h5
      rw [h5]; rfl
  · cases hF

end Go.Proofs.YtddhmidegldhdaaGreatDoor

/- The frame of a law over bytes. No conditions. -/
namespace Go.Proofs.YtddhmidegldhdaaGreatDoor
open Go.ChangeShapes Go.WideShapes Go.ChangeAt Go.RowKit Go.Deep
set_option maxRecDepth 100000

theorem okB_row {m : Nat} {b : Nat → Int} (h : ∀ j, j < m → 0 ≤ b j ∧ b j ≤ 255) : okB m (rowB b) = true := List.all_eq_true.2 fun j hj => by
  have := h j (by simpa using hj)
  show inR (b j) 0 255 = true
  exact inR_iff.2 this
section
variable {H : Type} {enc : TypeId × Value → H} {W : World}
theorem byte_elem (n : Nat) (cs : List Value) (x : DataW H × List MemPlace) (_ : cs.length = 1) (h : DataW.trod enc Tryz.prog W 0 (fun _ => true) true n 5 cs = some x) :
    ∃ f : Nat → Int, (0 ≤ f 0 ∧ f 0 ≤ 255) ∧ cs = [.int .u8 (f 0)] := by
  obtain ⟨k, e, _, hw⟩ := DataW.trod_int Tryz.underlying5 h
  unfold Lit.wf at hw
  rw [Bool.and_eq_true, decide_eq_true_eq, decide_eq_true_eq] at hw
  exact ⟨fun _ => k, hw, e⟩
end

theorem contractB {f : FuncId} {fn : Func} {spec : ChangeSpec} (hf : Tryz.prog.funcs[f]? = some fn) (hp : fn.params = #[22]) (hr : fn.resultTypes = #[4]) (hvars : spec.vars = []) (hspec : ∀ (H : Type) (d : DataW H), spec.fn H [d] = { results := [.lit (.bool true)], args := [d] })
    (yes : ∀ (m : Nat) (b : Nat → Int), m ≤ 9223372036854775807 → okB m (rowB b) = true → ∃ Γ n Λ, GamOk Tryz.prog Γ ∧ (∀ cc, fn.body = some cc → LamOk Tryz.prog 1 Λ cc) ∧ GoodQ (execF Tryz.prog Γ Λ n fn [.sl 0 1 0 0 m none] [.row false m 1 (rowB b) 5] (packK 1)) SaysYes)
    (H : Type) (enc : TypeId × Value → H) (W : World) (base : Nat) (args : Array Value) (ds gs : List (DataW H)) (before : List MemPlace)
    (hval : ∀ (j : Nat) t v, fn.params[j]? = some t → args[j]? = some v → Value.okWide Tryz.prog W .any base t v)
    (hW : DataW.Whole enc Tryz.prog fn.params.toList spec.vars false W args.toList ds gs before) (htab : TabOk (fun k => W.heap.size ≤ k) W := by intro x hx; simp [tabG] at hx) :
    Calls Tryz.prog f args W fun e W' => ∃ v, e = .returned v ∧ spec.post enc Tryz.prog fn false true false false W args v W' := by
  have hW' := hW
  obtain ⟨p, q, hA0, hV, rfl, hfz, hnd⟩ := hW
  have hA : DataW.TrodAll enc Tryz.prog W 0 (fun _ => true) true fn.params.toList args.toList ds p := hA0
  rw [hp] at hA hval
  rw [hvars] at hV
  obtain ⟨v0, vs0, d0, ds0, p0, q0, hargs, rfl, rfl, h0, r0⟩ := trodAll_cons hA
  obtain ⟨rfl, rfl, rfl⟩ := trodAll_nil r0
  obtain rfl : args = #[v0] := by cases args; simp_all
  obtain ⟨rfl, rfl⟩ := trodVars_none hV
  clear hA0 hA r0
  obtain ⟨m, ν, g, hm, hok, hvr, hRH, hdom⟩ := arg_row (H := H) Tryz.underlying22 (s := 1) (by kernel_rfl) Nat.one_pos (hval 0 22 v0 rfl rfl) h0 (fun f => [.int .u8 (f 0)]) (fun f => 0 ≤ f 0 ∧ f 0 ≤ 255) (fun f => ⟨rfl, by simp [Value.oneCell']⟩) byte_elem 5 htab
  obtain ⟨Γ, n, Λ, hΓ, hΛ, hgood⟩ := yes m (fun j => g j 0) hm (okB_row hok)
  have hcall := yes_calls hΓ (n := n) (vals := [v0]) (w := W) hf (Λ := Λ) (H := [.row false m 1 (rowB fun j => g j 0) 5]) hΛ hgood (by simp only [VRs, and_true]; exact hvr) hRH hdom
  refine hcall.mono fun e W' ⟨he, hb⟩ => ?_
  subst he
  have hlt : ∀ x ∈ p0, x.block < W.heap.size := fun x hx => by simpa using hW'.lt x (by simpa using hx)
  refine ⟨_, rfl, post_below (pa := p0) (pv := []) hW' ?_ ?_ ?_ (by simp) hb ?_⟩
  · intro b sp hd
    rw [hr]
    simp only [List.append_nil, hspec]
    exact trodAll_cons_mk (shut_bool Tryz.underlying4 _) trodAll_mk0
  · intro sp hsp
    rw [hp]
    simp only [List.append_nil, hspec]
    refine trodAll_mk1 (WideElems.Trod_stays laidOut (by kernel_rfl) (of_decide_eq_true (by kernel_rfl)) h0 (fun x hx => hb.same (hlt x hx)) fun x hx => hsp x (by simpa using hx))
  · intro sp _
    rw [hvars]
    simp only [List.append_nil, hspec]
    rfl
  · exact ok_one hr rfl (okWide_bool_mk Tryz.underlying4 _)

end Go.Proofs.YtddhmidegldhdaaGreatDoor

/- l91Cyc: its trees. Conditions: those of pick. -/
namespace Go.Proofs.YtddhmidegldhdaaGreatDoor
open Go.RowKit
set_option maxRecDepth 100000

noncomputable abbrev fCy : Func := Tryz.f175
def gmPJ (pk : Nat → (Nat → Int) → Int → Int → Int) (N q : Int) : Gam := ext g0 32 (specK [] (FpkJ pk N q))
abbrev lvCy : Ex → List Nat := lv3 [0, 2, 3, 6, 7] [0, 2, 3] [2]
abbrev stCy (n : Int) (i : Nat) : List AV := [.ptr 0 0 0 0, .ptr 2 0 0 0, .ptr 3 0 0 0, .v (i64 n), .v (i64 i)]
abbrev hpCy (l : Nat) (c : Option Nat) (p : Int) (m : Nat) (b : Nat → Int) (tr tb : TypeId) (a : Nat → Int) : List AB := [.cells [.sl 1 1 0 0 l c, .v (i64 p)] tr, .row false m 1 (rowB b) tb, .cells (cyC fun _ => 0) 57, .cells (cyC a) 57]
noncomputable abbrev exCy (pk : Nat → (Nat → Int) → Int → Int → Int) (l : Nat) (c : Option Nat) (p : Int) (m : Nat) (b : Nat → Int) (tr tb : TypeId) (a : Nat → Int) (n : Int) (i : Nat) (q : Int) : Res := execC Tryz.prog (gmPJ pk 8 q) 100 noLam (loopAt 1 fCy) (mkT 0 57 ((lvCy .normal).zip (stCy n i))) (hpCy l c p m b tr tb a) (leafV 57 lvCy 2)
theorem rndCy0 (pk : Nat → (Nat → Int) → Int → Int → Int) (l : Nat) (c : Option Nat) (p : Int) (m : Nat) (b : Nat → Int) (tr tb : TypeId) (a : Nat → Int) (n : Int) (i : Nat) : exCy pk l c p m b tr tb a n i 0
    = bif decide ((↑i : Int) < n) then needs [okB m (rowB b), decide (l ≤ m), decide ((0 : Int) ≤ p), decide (p ≤ (1073741824 : Int)), decide (pk l (itB (rowB b)) p (8 : Int) = (0 : Int)), decide ((0 : Nat) < m), okB m (rowB b), decide (l ≤ m), decide ((0 : Int) ≤ p + (1 : Int)), decide (p + (1 : Int) ≤ (1073741824 : Int)), decide ((0 : Nat) < m)] (Res.out .normal [AV.ptr (0 : Nat) (0 : Nat) (0 : Nat) (0 : Nat), AV.ptr (2 : Nat) (0 : Nat) (0 : Nat) (0 : Nat), AV.ptr (3 : Nat) (0 : Nat) (0 : Nat) (0 : Nat), AV.v (.int .i64 n), AV.v (.int .i64 (IntKind.wrap .i64 ((↑i : Int) + (1 : Int))))] [AB.cells [AV.sl 1 (1 : Nat) (0 : Nat) (0 : Nat) l c, AV.v (.int .i64 (p + (1 : Int) + (1 : Int)))] tr, AB.row false m 1 (rowB b) tb, AB.cells [AV.v (.int .i64 0), AV.v (.int .i64 0), AV.v (.int .i64 0), AV.v (.int .i64 0), AV.v (.int .i64 0), AV.v (.int .i64 0), AV.v (.int .i64 0), AV.v (.int .i64 0)] 57, AB.cells [AV.v (.int .i64 (IntKind.wrap .i64 (pk l (itB (rowB b)) (p + (1 : Int)) (9 : Int) - (4 : Int)))), AV.v (.int .i64 (a (1 : Nat))), AV.v (.int .i64 (a (2 : Nat))), AV.v (.int .i64 (a (3 : Nat))), AV.v (.int .i64 (a (4 : Nat))), AV.v (.int .i64 (a (5 : Nat))), AV.v (.int .i64 (a (6 : Nat))), AV.v (.int .i64 (a (7 : Nat)))] 57]) else Res.out (Ex.exit (1 : Nat)) [AV.ptr (0 : Nat) (0 : Nat) (0 : Nat) (0 : Nat), AV.ptr (2 : Nat) (0 : Nat) (0 : Nat) (0 : Nat), AV.ptr (3 : Nat) (0 : Nat) (0 : Nat) (0 : Nat)] [AB.cells [AV.sl 1 (1 : Nat) (0 : Nat) (0 : Nat) l c, AV.v (.int .i64 p)] tr, AB.row false m 1 (rowB b) tb, AB.cells [AV.v (.int .i64 0), AV.v (.int .i64 0), AV.v (.int .i64 0), AV.v (.int .i64 0), AV.v (.int .i64 0), AV.v (.int .i64 0), AV.v (.int .i64 0), AV.v (.int .i64 0)] 57, AB.cells [AV.v (.int .i64 (a (0 : Nat))), AV.v (.int .i64 (a (1 : Nat))), AV.v (.int .i64 (a (2 : Nat))), AV.v (.int .i64 (a (3 : Nat))), AV.v (.int .i64 (a (4 : Nat))), AV.v (.int .i64 (a (5 : Nat))), AV.v (.int .i64 (a (6 : Nat))), AV.v (.int .i64 (a (7 : Nat)))] 57] := by kernel_rfl

theorem rndCy1 (pk : Nat → (Nat → Int) → Int → Int → Int) (l : Nat) (c : Option Nat) (p : Int) (m : Nat) (b : Nat → Int) (tr tb : TypeId) (a : Nat → Int) (n : Int) (i : Nat) : exCy pk l c p m b tr tb a n i 1
    = bif decide ((↑i : Int) < n) then needs [okB m (rowB b), decide (l ≤ m), decide ((0 : Int) ≤ p), decide (p ≤ (1073741824 : Int)), decide (pk l (itB (rowB b)) p (8 : Int) = (1 : Int)), decide ((0 : Nat) < m), okB m (rowB b), decide (l ≤ m), decide ((0 : Int) ≤ p + (1 : Int)), decide (p + (1 : Int) ≤ (1073741824 : Int)), decide ((0 : Nat) < m)] (Res.out .normal [AV.ptr (0 : Nat) (0 : Nat) (0 : Nat) (0 : Nat), AV.ptr (2 : Nat) (0 : Nat) (0 : Nat) (0 : Nat), AV.ptr (3 : Nat) (0 : Nat) (0 : Nat) (0 : Nat), AV.v (.int .i64 n), AV.v (.int .i64 (IntKind.wrap .i64 ((↑i : Int) + (1 : Int))))] [AB.cells [AV.sl 1 (1 : Nat) (0 : Nat) (0 : Nat) l c, AV.v (.int .i64 (p + (1 : Int) + (1 : Int)))] tr, AB.row false m 1 (rowB b) tb, AB.cells [AV.v (.int .i64 0), AV.v (.int .i64 0), AV.v (.int .i64 0), AV.v (.int .i64 0), AV.v (.int .i64 0), AV.v (.int .i64 0), AV.v (.int .i64 0), AV.v (.int .i64 0)] 57, AB.cells [AV.v (.int .i64 (a (0 : Nat))), AV.v (.int .i64 (IntKind.wrap .i64 (pk l (itB (rowB b)) (p + (1 : Int)) (9 : Int) - (4 : Int)))), AV.v (.int .i64 (a (2 : Nat))), AV.v (.int .i64 (a (3 : Nat))), AV.v (.int .i64 (a (4 : Nat))), AV.v (.int .i64 (a (5 : Nat))), AV.v (.int .i64 (a (6 : Nat))), AV.v (.int .i64 (a (7 : Nat)))] 57]) else Res.out (Ex.exit (1 : Nat)) [AV.ptr (0 : Nat) (0 : Nat) (0 : Nat) (0 : Nat), AV.ptr (2 : Nat) (0 : Nat) (0 : Nat) (0 : Nat), AV.ptr (3 : Nat) (0 : Nat) (0 : Nat) (0 : Nat)] [AB.cells [AV.sl 1 (1 : Nat) (0 : Nat) (0 : Nat) l c, AV.v (.int .i64 p)] tr, AB.row false m 1 (rowB b) tb, AB.cells [AV.v (.int .i64 0), AV.v (.int .i64 0), AV.v (.int .i64 0), AV.v (.int .i64 0), AV.v (.int .i64 0), AV.v (.int .i64 0), AV.v (.int .i64 0), AV.v (.int .i64 0)] 57, AB.cells [AV.v (.int .i64 (a (0 : Nat))), AV.v (.int .i64 (a (1 : Nat))), AV.v (.int .i64 (a (2 : Nat))), AV.v (.int .i64 (a (3 : Nat))), AV.v (.int .i64 (a (4 : Nat))), AV.v (.int .i64 (a (5 : Nat))), AV.v (.int .i64 (a (6 : Nat))), AV.v (.int .i64 (a (7 : Nat)))] 57] := by kernel_rfl

theorem rndCy2 (pk : Nat → (Nat → Int) → Int → Int → Int) (l : Nat) (c : Option Nat) (p : Int) (m : Nat) (b : Nat → Int) (tr tb : TypeId) (a : Nat → Int) (n : Int) (i : Nat) : exCy pk l c p m b tr tb a n i 2
    = bif decide ((↑i : Int) < n) then needs [okB m (rowB b), decide (l ≤ m), decide ((0 : Int) ≤ p), decide (p ≤ (1073741824 : Int)), decide (pk l (itB (rowB b)) p (8 : Int) = (2 : Int)), decide ((0 : Nat) < m), okB m (rowB b), decide (l ≤ m), decide ((0 : Int) ≤ p + (1 : Int)), decide (p + (1 : Int) ≤ (1073741824 : Int)), decide ((0 : Nat) < m)] (Res.out .normal [AV.ptr (0 : Nat) (0 : Nat) (0 : Nat) (0 : Nat), AV.ptr (2 : Nat) (0 : Nat) (0 : Nat) (0 : Nat), AV.ptr (3 : Nat) (0 : Nat) (0 : Nat) (0 : Nat), AV.v (.int .i64 n), AV.v (.int .i64 (IntKind.wrap .i64 ((↑i : Int) + (1 : Int))))] [AB.cells [AV.sl 1 (1 : Nat) (0 : Nat) (0 : Nat) l c, AV.v (.int .i64 (p + (1 : Int) + (1 : Int)))] tr, AB.row false m 1 (rowB b) tb, AB.cells [AV.v (.int .i64 0), AV.v (.int .i64 0), AV.v (.int .i64 0), AV.v (.int .i64 0), AV.v (.int .i64 0), AV.v (.int .i64 0), AV.v (.int .i64 0), AV.v (.int .i64 0)] 57, AB.cells [AV.v (.int .i64 (a (0 : Nat))), AV.v (.int .i64 (a (1 : Nat))), AV.v (.int .i64 (IntKind.wrap .i64 (pk l (itB (rowB b)) (p + (1 : Int)) (9 : Int) - (4 : Int)))), AV.v (.int .i64 (a (3 : Nat))), AV.v (.int .i64 (a (4 : Nat))), AV.v (.int .i64 (a (5 : Nat))), AV.v (.int .i64 (a (6 : Nat))), AV.v (.int .i64 (a (7 : Nat)))] 57]) else Res.out (Ex.exit (1 : Nat)) [AV.ptr (0 : Nat) (0 : Nat) (0 : Nat) (0 : Nat), AV.ptr (2 : Nat) (0 : Nat) (0 : Nat) (0 : Nat), AV.ptr (3 : Nat) (0 : Nat) (0 : Nat) (0 : Nat)] [AB.cells [AV.sl 1 (1 : Nat) (0 : Nat) (0 : Nat) l c, AV.v (.int .i64 p)] tr, AB.row false m 1 (rowB b) tb, AB.cells [AV.v (.int .i64 0), AV.v (.int .i64 0), AV.v (.int .i64 0), AV.v (.int .i64 0), AV.v (.int .i64 0), AV.v (.int .i64 0), AV.v (.int .i64 0), AV.v (.int .i64 0)] 57, AB.cells [AV.v (.int .i64 (a (0 : Nat))), AV.v (.int .i64 (a (1 : Nat))), AV.v (.int .i64 (a (2 : Nat))), AV.v (.int .i64 (a (3 : Nat))), AV.v (.int .i64 (a (4 : Nat))), AV.v (.int .i64 (a (5 : Nat))), AV.v (.int .i64 (a (6 : Nat))), AV.v (.int .i64 (a (7 : Nat)))] 57] := by kernel_rfl

theorem rndCy3 (pk : Nat → (Nat → Int) → Int → Int → Int) (l : Nat) (c : Option Nat) (p : Int) (m : Nat) (b : Nat → Int) (tr tb : TypeId) (a : Nat → Int) (n : Int) (i : Nat) : exCy pk l c p m b tr tb a n i 3
    = bif decide ((↑i : Int) < n) then needs [okB m (rowB b), decide (l ≤ m), decide ((0 : Int) ≤ p), decide (p ≤ (1073741824 : Int)), decide (pk l (itB (rowB b)) p (8 : Int) = (3 : Int)), decide ((0 : Nat) < m), okB m (rowB b), decide (l ≤ m), decide ((0 : Int) ≤ p + (1 : Int)), decide (p + (1 : Int) ≤ (1073741824 : Int)), decide ((0 : Nat) < m)] (Res.out .normal [AV.ptr (0 : Nat) (0 : Nat) (0 : Nat) (0 : Nat), AV.ptr (2 : Nat) (0 : Nat) (0 : Nat) (0 : Nat), AV.ptr (3 : Nat) (0 : Nat) (0 : Nat) (0 : Nat), AV.v (.int .i64 n), AV.v (.int .i64 (IntKind.wrap .i64 ((↑i : Int) + (1 : Int))))] [AB.cells [AV.sl 1 (1 : Nat) (0 : Nat) (0 : Nat) l c, AV.v (.int .i64 (p + (1 : Int) + (1 : Int)))] tr, AB.row false m 1 (rowB b) tb, AB.cells [AV.v (.int .i64 0), AV.v (.int .i64 0), AV.v (.int .i64 0), AV.v (.int .i64 0), AV.v (.int .i64 0), AV.v (.int .i64 0), AV.v (.int .i64 0), AV.v (.int .i64 0)] 57, AB.cells [AV.v (.int .i64 (a (0 : Nat))), AV.v (.int .i64 (a (1 : Nat))), AV.v (.int .i64 (a (2 : Nat))), AV.v (.int .i64 (IntKind.wrap .i64 (pk l (itB (rowB b)) (p + (1 : Int)) (9 : Int) - (4 : Int)))), AV.v (.int .i64 (a (4 : Nat))), AV.v (.int .i64 (a (5 : Nat))), AV.v (.int .i64 (a (6 : Nat))), AV.v (.int .i64 (a (7 : Nat)))] 57]) else Res.out (Ex.exit (1 : Nat)) [AV.ptr (0 : Nat) (0 : Nat) (0 : Nat) (0 : Nat), AV.ptr (2 : Nat) (0 : Nat) (0 : Nat) (0 : Nat), AV.ptr (3 : Nat) (0 : Nat) (0 : Nat) (0 : Nat)] [AB.cells [AV.sl 1 (1 : Nat) (0 : Nat) (0 : Nat) l c, AV.v (.int .i64 p)] tr, AB.row false m 1 (rowB b) tb, AB.cells [AV.v (.int .i64 0), AV.v (.int .i64 0), AV.v (.int .i64 0), AV.v (.int .i64 0), AV.v (.int .i64 0), AV.v (.int .i64 0), AV.v (.int .i64 0), AV.v (.int .i64 0)] 57, AB.cells [AV.v (.int .i64 (a (0 : Nat))), AV.v (.int .i64 (a (1 : Nat))), AV.v (.int .i64 (a (2 : Nat))), AV.v (.int .i64 (a (3 : Nat))), AV.v (.int .i64 (a (4 : Nat))), AV.v (.int .i64 (a (5 : Nat))), AV.v (.int .i64 (a (6 : Nat))), AV.v (.int .i64 (a (7 : Nat)))] 57] := by kernel_rfl

theorem rndCy4 (pk : Nat → (Nat → Int) → Int → Int → Int) (l : Nat) (c : Option Nat) (p : Int) (m : Nat) (b : Nat → Int) (tr tb : TypeId) (a : Nat → Int) (n : Int) (i : Nat) : exCy pk l c p m b tr tb a n i 4
    = bif decide ((↑i : Int) < n) then needs [okB m (rowB b), decide (l ≤ m), decide ((0 : Int) ≤ p), decide (p ≤ (1073741824 : Int)), decide (pk l (itB (rowB b)) p (8 : Int) = (4 : Int)), decide ((0 : Nat) < m), okB m (rowB b), decide (l ≤ m), decide ((0 : Int) ≤ p + (1 : Int)), decide (p + (1 : Int) ≤ (1073741824 : Int)), decide ((0 : Nat) < m)] (Res.out .normal [AV.ptr (0 : Nat) (0 : Nat) (0 : Nat) (0 : Nat), AV.ptr (2 : Nat) (0 : Nat) (0 : Nat) (0 : Nat), AV.ptr (3 : Nat) (0 : Nat) (0 : Nat) (0 : Nat), AV.v (.int .i64 n), AV.v (.int .i64 (IntKind.wrap .i64 ((↑i : Int) + (1 : Int))))] [AB.cells [AV.sl 1 (1 : Nat) (0 : Nat) (0 : Nat) l c, AV.v (.int .i64 (p + (1 : Int) + (1 : Int)))] tr, AB.row false m 1 (rowB b) tb, AB.cells [AV.v (.int .i64 0), AV.v (.int .i64 0), AV.v (.int .i64 0), AV.v (.int .i64 0), AV.v (.int .i64 0), AV.v (.int .i64 0), AV.v (.int .i64 0), AV.v (.int .i64 0)] 57, AB.cells [AV.v (.int .i64 (a (0 : Nat))), AV.v (.int .i64 (a (1 : Nat))), AV.v (.int .i64 (a (2 : Nat))), AV.v (.int .i64 (a (3 : Nat))), AV.v (.int .i64 (IntKind.wrap .i64 (pk l (itB (rowB b)) (p + (1 : Int)) (9 : Int) - (4 : Int)))), AV.v (.int .i64 (a (5 : Nat))), AV.v (.int .i64 (a (6 : Nat))), AV.v (.int .i64 (a (7 : Nat)))] 57]) else Res.out (Ex.exit (1 : Nat)) [AV.ptr (0 : Nat) (0 : Nat) (0 : Nat) (0 : Nat), AV.ptr (2 : Nat) (0 : Nat) (0 : Nat) (0 : Nat), AV.ptr (3 : Nat) (0 : Nat) (0 : Nat) (0 : Nat)] [AB.cells [AV.sl 1 (1 : Nat) (0 : Nat) (0 : Nat) l c, AV.v (.int .i64 p)] tr, AB.row false m 1 (rowB b) tb, AB.cells [AV.v (.int .i64 0), AV.v (.int .i64 0), AV.v (.int .i64 0), AV.v (.int .i64 0), AV.v (.int .i64 0), AV.v (.int .i64 0), AV.v (.int .i64 0), AV.v (.int .i64 0)] 57, AB.cells [AV.v (.int .i64 (a (0 : Nat))), AV.v (.int .i64 (a (1 : Nat))), AV.v (.int .i64 (a (2 : Nat))), AV.v (.int .i64 (a (3 : Nat))), AV.v (.int .i64 (a (4 : Nat))), AV.v (.int .i64 (a (5 : Nat))), AV.v (.int .i64 (a (6 : Nat))), AV.v (.int .i64 (a (7 : Nat)))] 57] := by kernel_rfl

theorem rndCy5 (pk : Nat → (Nat → Int) → Int → Int → Int) (l : Nat) (c : Option Nat) (p : Int) (m : Nat) (b : Nat → Int) (tr tb : TypeId) (a : Nat → Int) (n : Int) (i : Nat) : exCy pk l c p m b tr tb a n i 5
    = bif decide ((↑i : Int) < n) then needs [okB m (rowB b), decide (l ≤ m), decide ((0 : Int) ≤ p), decide (p ≤ (1073741824 : Int)), decide (pk l (itB (rowB b)) p (8 : Int) = (5 : Int)), decide ((0 : Nat) < m), okB m (rowB b), decide (l ≤ m), decide ((0 : Int) ≤ p + (1 : Int)), decide (p + (1 : Int) ≤ (1073741824 : Int)), decide ((0 : Nat) < m)] (Res.out .normal [AV.ptr (0 : Nat) (0 : Nat) (0 : Nat) (0 : Nat), AV.ptr (2 : Nat) (0 : Nat) (0 : Nat) (0 : Nat), AV.ptr (3 : Nat) (0 : Nat) (0 : Nat) (0 : Nat), AV.v (.int .i64 n), AV.v (.int .i64 (IntKind.wrap .i64 ((↑i : Int) + (1 : Int))))] [AB.cells [AV.sl 1 (1 : Nat) (0 : Nat) (0 : Nat) l c, AV.v (.int .i64 (p + (1 : Int) + (1 : Int)))] tr, AB.row false m 1 (rowB b) tb, AB.cells [AV.v (.int .i64 0), AV.v (.int .i64 0), AV.v (.int .i64 0), AV.v (.int .i64 0), AV.v (.int .i64 0), AV.v (.int .i64 0), AV.v (.int .i64 0), AV.v (.int .i64 0)] 57, AB.cells [AV.v (.int .i64 (a (0 : Nat))), AV.v (.int .i64 (a (1 : Nat))), AV.v (.int .i64 (a (2 : Nat))), AV.v (.int .i64 (a (3 : Nat))), AV.v (.int .i64 (a (4 : Nat))), AV.v (.int .i64 (IntKind.wrap .i64 (pk l (itB (rowB b)) (p + (1 : Int)) (9 : Int) - (4 : Int)))), AV.v (.int .i64 (a (6 : Nat))), AV.v (.int .i64 (a (7 : Nat)))] 57]) else Res.out (Ex.exit (1 : Nat)) [AV.ptr (0 : Nat) (0 : Nat) (0 : Nat) (0 : Nat), AV.ptr (2 : Nat) (0 : Nat) (0 : Nat) (0 : Nat), AV.ptr (3 : Nat) (0 : Nat) (0 : Nat) (0 : Nat)] [AB.cells [AV.sl 1 (1 : Nat) (0 : Nat) (0 : Nat) l c, AV.v (.int .i64 p)] tr, AB.row false m 1 (rowB b) tb, AB.cells [AV.v (.int .i64 0), AV.v (.int .i64 0), AV.v (.int .i64 0), AV.v (.int .i64 0), AV.v (.int .i64 0), AV.v (.int .i64 0), AV.v (.int .i64 0), AV.v (.int .i64 0)] 57, AB.cells [AV.v (.int .i64 (a (0 : Nat))), AV.v (.int .i64 (a (1 : Nat))), AV.v (.int .i64 (a (2 : Nat))), AV.v (.int .i64 (a (3 : Nat))), AV.v (.int .i64 (a (4 : Nat))), AV.v (.int .i64 (a (5 : Nat))), AV.v (.int .i64 (a (6 : Nat))), AV.v (.int .i64 (a (7 : Nat)))] 57] := by kernel_rfl

theorem rndCy6 (pk : Nat → (Nat → Int) → Int → Int → Int) (l : Nat) (c : Option Nat) (p : Int) (m : Nat) (b : Nat → Int) (tr tb : TypeId) (a : Nat → Int) (n : Int) (i : Nat) : exCy pk l c p m b tr tb a n i 6
    = bif decide ((↑i : Int) < n) then needs [okB m (rowB b), decide (l ≤ m), decide ((0 : Int) ≤ p), decide (p ≤ (1073741824 : Int)), decide (pk l (itB (rowB b)) p (8 : Int) = (6 : Int)), decide ((0 : Nat) < m), okB m (rowB b), decide (l ≤ m), decide ((0 : Int) ≤ p + (1 : Int)), decide (p + (1 : Int) ≤ (1073741824 : Int)), decide ((0 : Nat) < m)] (Res.out .normal [AV.ptr (0 : Nat) (0 : Nat) (0 : Nat) (0 : Nat), AV.ptr (2 : Nat) (0 : Nat) (0 : Nat) (0 : Nat), AV.ptr (3 : Nat) (0 : Nat) (0 : Nat) (0 : Nat), AV.v (.int .i64 n), AV.v (.int .i64 (IntKind.wrap .i64 ((↑i : Int) + (1 : Int))))] [AB.cells [AV.sl 1 (1 : Nat) (0 : Nat) (0 : Nat) l c, AV.v (.int .i64 (p + (1 : Int) + (1 : Int)))] tr, AB.row false m 1 (rowB b) tb, AB.cells [AV.v (.int .i64 0), AV.v (.int .i64 0), AV.v (.int .i64 0), AV.v (.int .i64 0), AV.v (.int .i64 0), AV.v (.int .i64 0), AV.v (.int .i64 0), AV.v (.int .i64 0)] 57, AB.cells [AV.v (.int .i64 (a (0 : Nat))), AV.v (.int .i64 (a (1 : Nat))), AV.v (.int .i64 (a (2 : Nat))), AV.v (.int .i64 (a (3 : Nat))), AV.v (.int .i64 (a (4 : Nat))), AV.v (.int .i64 (a (5 : Nat))), AV.v (.int .i64 (IntKind.wrap .i64 (pk l (itB (rowB b)) (p + (1 : Int)) (9 : Int) - (4 : Int)))), AV.v (.int .i64 (a (7 : Nat)))] 57]) else Res.out (Ex.exit (1 : Nat)) [AV.ptr (0 : Nat) (0 : Nat) (0 : Nat) (0 : Nat), AV.ptr (2 : Nat) (0 : Nat) (0 : Nat) (0 : Nat), AV.ptr (3 : Nat) (0 : Nat) (0 : Nat) (0 : Nat)] [AB.cells [AV.sl 1 (1 : Nat) (0 : Nat) (0 : Nat) l c, AV.v (.int .i64 p)] tr, AB.row false m 1 (rowB b) tb, AB.cells [AV.v (.int .i64 0), AV.v (.int .i64 0), AV.v (.int .i64 0), AV.v (.int .i64 0), AV.v (.int .i64 0), AV.v (.int .i64 0), AV.v (.int .i64 0), AV.v (.int .i64 0)] 57, AB.cells [AV.v (.int .i64 (a (0 : Nat))), AV.v (.int .i64 (a (1 : Nat))), AV.v (.int .i64 (a (2 : Nat))), AV.v (.int .i64 (a (3 : Nat))), AV.v (.int .i64 (a (4 : Nat))), AV.v (.int .i64 (a (5 : Nat))), AV.v (.int .i64 (a (6 : Nat))), AV.v (.int .i64 (a (7 : Nat)))] 57] := by kernel_rfl

theorem rndCy7 (pk : Nat → (Nat → Int) → Int → Int → Int) (l : Nat) (c : Option Nat) (p : Int) (m : Nat) (b : Nat → Int) (tr tb : TypeId) (a : Nat → Int) (n : Int) (i : Nat) : exCy pk l c p m b tr tb a n i 7
    = bif decide ((↑i : Int) < n) then needs [okB m (rowB b), decide (l ≤ m), decide ((0 : Int) ≤ p), decide (p ≤ (1073741824 : Int)), decide (pk l (itB (rowB b)) p (8 : Int) = (7 : Int)), decide ((0 : Nat) < m), okB m (rowB b), decide (l ≤ m), decide ((0 : Int) ≤ p + (1 : Int)), decide (p + (1 : Int) ≤ (1073741824 : Int)), decide ((0 : Nat) < m)] (Res.out .normal [AV.ptr (0 : Nat) (0 : Nat) (0 : Nat) (0 : Nat), AV.ptr (2 : Nat) (0 : Nat) (0 : Nat) (0 : Nat), AV.ptr (3 : Nat) (0 : Nat) (0 : Nat) (0 : Nat), AV.v (.int .i64 n), AV.v (.int .i64 (IntKind.wrap .i64 ((↑i : Int) + (1 : Int))))] [AB.cells [AV.sl 1 (1 : Nat) (0 : Nat) (0 : Nat) l c, AV.v (.int .i64 (p + (1 : Int) + (1 : Int)))] tr, AB.row false m 1 (rowB b) tb, AB.cells [AV.v (.int .i64 0), AV.v (.int .i64 0), AV.v (.int .i64 0), AV.v (.int .i64 0), AV.v (.int .i64 0), AV.v (.int .i64 0), AV.v (.int .i64 0), AV.v (.int .i64 0)] 57, AB.cells [AV.v (.int .i64 (a (0 : Nat))), AV.v (.int .i64 (a (1 : Nat))), AV.v (.int .i64 (a (2 : Nat))), AV.v (.int .i64 (a (3 : Nat))), AV.v (.int .i64 (a (4 : Nat))), AV.v (.int .i64 (a (5 : Nat))), AV.v (.int .i64 (a (6 : Nat))), AV.v (.int .i64 (IntKind.wrap .i64 (pk l (itB (rowB b)) (p + (1 : Int)) (9 : Int) - (4 : Int))))] 57]) else Res.out (Ex.exit (1 : Nat)) [AV.ptr (0 : Nat) (0 : Nat) (0 : Nat) (0 : Nat), AV.ptr (2 : Nat) (0 : Nat) (0 : Nat) (0 : Nat), AV.ptr (3 : Nat) (0 : Nat) (0 : Nat) (0 : Nat)] [AB.cells [AV.sl 1 (1 : Nat) (0 : Nat) (0 : Nat) l c, AV.v (.int .i64 p)] tr, AB.row false m 1 (rowB b) tb, AB.cells [AV.v (.int .i64 0), AV.v (.int .i64 0), AV.v (.int .i64 0), AV.v (.int .i64 0), AV.v (.int .i64 0), AV.v (.int .i64 0), AV.v (.int .i64 0), AV.v (.int .i64 0)] 57, AB.cells [AV.v (.int .i64 (a (0 : Nat))), AV.v (.int .i64 (a (1 : Nat))), AV.v (.int .i64 (a (2 : Nat))), AV.v (.int .i64 (a (3 : Nat))), AV.v (.int .i64 (a (4 : Nat))), AV.v (.int .i64 (a (5 : Nat))), AV.v (.int .i64 (a (6 : Nat))), AV.v (.int .i64 (a (7 : Nat)))] 57] := by kernel_rfl

noncomputable abbrev lamCy (l : Nat) (c : Option Nat) (m : Nat) (b : Nat → Int) (tr tb : TypeId) (n p1 p2 : Int) (a : Nat → Int) : Nat → Option Sum := oneL 1 (atS 57 (lvCy .normal) 2 (stCy n 0) (hpCy l c p1 m b tr tb fun _ => 0) (fun K => K .normal (mkT 0 57 [(0, .ptr 0 0 0 0), (2, .ptr 2 0 0 0), (3, .ptr 3 0 0 0)]) (hpCy l c p2 m b tr tb a)))
def gmCy (pk : Nat → (Nat → Int) → Int → Int → Int) (is : Int → Bool) (tu : (Nat → Int) → Int → Nat → Int) : Gam := ext (ext (ext g0 32 (specK [] (FpkO pk))) 260 (specV (fIsO is))) 303 (specR [.val, .val] (FtuO tu))
theorem treeCy_h (pk : Nat → (Nat → Int) → Int → Int → Int) (is : Int → Bool) (tu : (Nat → Int) → Int → Nat → Int) (l : Nat) (c : Option Nat) (p : Int) (m : Nat) (b : Nat → Int) (tr tb : TypeId) (n p1 p2 : Int) (a : Nat → Int) (u4 : _) (hu4 : (AB.row false m 1 (rowB b) tb) = u4) (u5 : _) (hu5 : (1 : Int) = u5) (u6 : _) (hu6 : (0 : Nat) = u6) (u9 : _) (hu9 : (itB (rowB b)) = u9) (u10 : _) (hu10 : (0 : Int) = u10) (u12 : _) (hu12 : (AV.v (.int .i64 (a (6 : Nat)))) = u12) (u13 : _) (hu13 : (AV.v (.int .i64 (a (5 : Nat)))) = u13) (u14 : _) (hu14 : (AV.v (.int .i64 (a (3 : Nat)))) = u14) (u15 : _) (hu15 : (AV.v (.int .i64 (a (4 : Nat)))) = u15) (u16 : _) (hu16 : (AV.v (.int .i64 (a (1 : Nat)))) = u16) (u17 : _) (hu17 : (AV.v (.int .i64 (a (2 : Nat)))) = u17) (u18 : _) (hu18 : (1073741824 : Int) = u18) (u19 : _) (hu19 : (decide (l ≤ m)) = u19) (u20 : _) (hu20 : (decide (u6 < m)) = u20) (u21 : _) (hu21 : (okB m (rowB b)) = u21) (u22 : _) (hu22 : (decide (p + u5 ≤ u18)) = u22) (u23 : _) (hu23 : (decide (u10 ≤ p + u5)) = u23) (u24 : _) (hu24 : (AV.v (.int .i64 (a (7 : Nat)))) = u24) (u0 : _) (hu0 : (AV.v (.int .i64 u10)) = u0) (u1 : _) (hu1 : (v8 u5 u10 u10 u10 u10 u10 u10 u10) = u1) (u2 : _) (hu2 : (pk l u9 (p + u5) (24 : Int)) = u2) (u3 : _) (hu3 : (AV.sl 1 (1 : Nat) u6 u6 l c) = u3) (u7 : _) (hu7 : [AB.cells [u3, AV.v (.int .i64 (p2 + u5))] tr, u4] = u7) (u8 : _) (hu8 : (AB.cells [u3, AV.v (.int .i64 (p + u5 + u5))] tr) = u8) (u11 : _) (hu11 : [u0, u0, u0, u0, u0, u0, u0, u0] = u11) : execF Tryz.prog (gmCy pk is tu) (lamCy l c m b tr tb n p1 p2 a) 100 fCy [.ptr 0 0 0 0] (hpRd l c p m b tr tb) (packK 2)
    = needs [u21, u19, decide (u10 ≤ p), decide (p ≤ u18), u20] (bif pk l u9 p (8 : Int) == u10 then needs [u21, u19, u23, u22, u20] (bif !is u2 then Res.out .ret [AV.agg u11] [u8, u4] else needs [decide (pk l u9 (p + u5) (24 : Int) ≤ (1099511627776 : Int))] (Res.out .ret [AV.agg [AV.v (.int .i64 (tu u1 u2 u6)), AV.v (.int .i64 (tu u1 u2 (1 : Nat))), AV.v (.int .i64 (tu u1 u2 (2 : Nat))), AV.v (.int .i64 (tu u1 u2 (3 : Nat))), AV.v (.int .i64 (tu u1 u2 (4 : Nat))), AV.v (.int .i64 (tu u1 u2 (5 : Nat))), AV.v (.int .i64 (tu u1 u2 (6 : Nat))), AV.v (.int .i64 (tu u1 u2 (7 : Nat)))]] [u8, u4])) else bif pk l u9 p (8 : Int) == u5 then needs [u21, u19, u23, u22, u20, u21, u19, decide (u10 ≤ p + u5 + u5), decide (p + u5 + u5 ≤ u18), u20] (Res.out .ret [AV.agg [AV.v (.int .i64 (IntKind.wrap .i64 (pk l u9 (p + u5) (9 : Int) - (4 : Int)))), u0, u0, u0, u0, u0, AV.v (.int .i64 (IntKind.wrap .i64 (pk l u9 (p + u5 + u5) (9 : Int) - (4 : Int)))), u0]] [AB.cells [u3, AV.v (.int .i64 (p + u5 + u5 + u5))] tr, u4]) else bif pk l u9 p (8 : Int) == (2 : Int) then Res.out .ret [AV.agg u11] [AB.cells [u3, AV.v (.int .i64 (p + u5))] tr, u4] else needs [u21, u19, u23, u22, u20, chk ([AV.ptr u6 u6 u6 u6, AV.ptr (2 : Nat) u6 u6 u6, AV.ptr (3 : Nat) u6 u6 u6, AV.v (.int .i64 (IntKind.wrap .i64 (u5 + pk l u9 (p + u5) (3 : Int)))), u0] = stCy n u6 ∧ Hsim [u8, u4, AB.cells u11 (57 : Nat), AB.cells u11 (57 : Nat)] (hpCy l c p1 m b tr tb fun _ ↦ u10)), u21, u19, decide (u10 ≤ p2), decide (p2 ≤ u18), u20] (bif pk l u9 p2 (30 : Int) == u10 then Res.out .ret [AV.agg [AV.v (.int .i64 1000001), u16, u17, u14, u15, u13, u12, u24]] u7 else bif pk l u9 p2 (30 : Int) == u5 then Res.out .ret [AV.agg [AV.v (.int .i64 (a u6)), u16, u17, u14, u15, u13, u12, AV.v (.int .i64 1000000)]] u7 else Res.out .ret [AV.agg [AV.v (.int .i64 (a u6)), u16, u17, u14, u15, u13, u12, u24]] u7)) := by
  subst hu11 hu8 hu7 hu3 hu2 hu1 hu0 hu24 hu23 hu22 hu21 hu20 hu19 hu18 hu17 hu16 hu15 hu14 hu13 hu12 hu10 hu9 hu6 hu5 hu4
  kernel_rfl
theorem treeCy (pk : Nat → (Nat → Int) → Int → Int → Int) (is : Int → Bool) (tu : (Nat → Int) → Int → Nat → Int) (l : Nat) (c : Option Nat) (p : Int) (m : Nat) (b : Nat → Int) (tr tb : TypeId) (n p1 p2 : Int) (a : Nat → Int) : type_of% (treeCy_h pk is tu l c p m b tr tb n p1 p2 a _ rfl _ rfl _ rfl _ rfl _ rfl _ rfl _ rfl _ rfl _ rfl _ rfl _ rfl _ rfl _ rfl _ rfl _ rfl _ rfl _ rfl _ rfl _ rfl _ rfl _ rfl _ rfl _ rfl _ rfl _ rfl) := treeCy_h pk is tu l c p m b tr tb n p1 p2 a _ rfl _ rfl _ rfl _ rfl _ rfl _ rfl _ rfl _ rfl _ rfl _ rfl _ rfl _ rfl _ rfl _ rfl _ rfl _ rfl _ rfl _ rfl _ rfl _ rfl _ rfl _ rfl _ rfl _ rfl _ rfl

end Go.Proofs.YtddhmidegldhdaaGreatDoor

/- The abstract machine, 28: loops whose table of callees goes by the round. Conditions: those of the tables. -/
namespace Go.Proofs.YtddhmidegldhdaaGreatDoor
open Go.RowKit

theorem loop_atG {id n m m0 N : Nat} {c : Code} {lv : Ex → List Nat} {out : Kont → Res} {σ : Type} (Γ : σ → Gam) (hΓ : ∀ s, GamOk Tryz.prog (Γ s)) (st : σ → List AV) (hp : σ → List AB) (Inv : σ → Prop) (μ : σ → Nat) (s0 : σ) (Λ : σ → Nat → Option Sum)
    (hr : ∀ e, risB (lv e) = true) (hm : m0 ≤ m) (h0 : Inv s0)
    (h : ∀ K Q, (out K).ok Q → ∀ s, Inv s → LamOk Tryz.prog m0 (Λ s) c ∧ GoodQ (execC Tryz.prog (Γ s) n (Λ s) c (mkT 0 N ((lv .normal).zip (st s))) (hp s) (leafV N lv m)) (RoundV N id lv st hp (fun s' => Inv s' ∧ μ s' < μ s) K Q)) :
    SumOk Tryz.prog m0 (.block id (.loop c)) (atS N (lv .normal) m (st s0) (hp s0) out) := by
  intro M w0 ν0 hM hm0 T H K Q a w ν hS hR hd
  unfold atS at hS
  cases hN : Nat.beq T.length N with
  | false => rw [hN] at hS; exact hS.elim
  | true =>
    rw [hN, cond_true] at hS
    have hN := Nat.eq_of_beq_eq_true hN
    split at hS
    · rename_i p hw
      rcases cond_ok hS with ⟨hc, hk⟩ | ⟨_, hk⟩
      · obtain ⟨hv, hsim⟩ := of_chk hc
        have hw' := weakL_some hw (hr .normal)
        rw [hN, hv] at hw'
        have hν : ∀ i b, ν0 i = some b → i < m := fun i b hb => Nat.lt_of_lt_of_le (hm0 i b hb) hm
        have key : ∀ (r : Nat) (s : σ) (a : Act) (w : World) (ν : Nu), Inv s → μ s < r → SR M w0 ν0 (mkT 0 N ((lv .normal).zip (st s))) (hp s) a w ν → a.defers = [] → Code.rounds Tryz.prog c (Exit.inBlock id (post M w0 ν0 K Q)) r a w := by
          intro r
          induction r with
          | zero => intro s a w ν _ hlt; omega
          | succ r ih =>
            intro s a w ν hi hlt hR hd
            rw [rounds_succ]
            obtain ⟨hL, hG⟩ := h K Q hk s hi
            refine wp_mono (execC_sound (hΓ s) mixed enters n m0 (Λ s) c hL M w0 ν0 hM hm0 _ _ _ _ a w ν hG.out hR hd) fun e a' w' hpp => ?_
            obtain ⟨e', T', H', ν', rfl, hk', hS', hd'⟩ := hpp
            unfold leafV at hk'
            cases hN' : Nat.beq T'.length N with
            | false => rw [hN'] at hk'; exact hk'.elim
            | true =>
              rw [hN', cond_true] at hk'
              have hN' := Nat.eq_of_beq_eq_true hN'
              split at hk'
              · rename_i q hwk
                have hwk' := weakL_some hwk (hr e')
                rw [hN'] at hwk'
                have hR' := weak_sound hwk' hS' hν
                cases e' with
                | normal =>
                  obtain ⟨s', ⟨i', hmu⟩, he, hs'⟩ := hk'
                  rw [he] at hR'
                  exact ih s' a' w' _ i' (by omega) (hR'.sim hs') hd'
                | exit j =>
                  simp only [Ex.to, Exit.then, Exit.inBlock]
                  obtain ⟨H'', hs', hkk⟩ := hk'
                  split
                  · rename_i hj
                    rw [if_pos hj] at hkk
                    exact ⟨.normal, _, _, _, rfl, hkk, hR'.sim hs', hd'⟩
                  · rename_i hj
                    rw [if_neg hj] at hkk
                    exact ⟨.exit j, _, _, _, rfl, hkk, hR'.sim hs', hd'⟩
                | ret =>
                  obtain ⟨H'', hs', hkk⟩ := hk'
                  exact ⟨.ret, _, _, _, rfl, hkk, hR'.sim hs', hd'⟩
              · exact hk'.elim
        have hR0 := (weak_sound hw' hR hν).sim hsim
        exact wp_block (wp_loop_rounds (μ s0 + 1) (key _ s0 a w _ h0 (Nat.lt_succ_self _) hR0 hd))
      · exact hk.elim
    · exact hS.elim

theorem for_atG {id n m m0 N : Nat} {c : Code} {lv : Ex → List Nat} {out : Kont → Res} (Γ : Nat → Gam) (hΓ : ∀ s, GamOk Tryz.prog (Γ s)) (st : Nat → List AV) (hp : Nat → List AB) (okI : Nat → Prop) (len : Nat) (Λ : Nat → Nat → Option Sum)
    (hr : ∀ e, risB (lv e) = true) (hm : m0 ≤ m) (h0 : okI 0)
    (h : ∀ K Q, (out K).ok Q → ∀ i, okI i → i ≤ len → LamOk Tryz.prog m0 (Λ i) c ∧ GoodQ (execC Tryz.prog (Γ i) n (Λ i) c (mkT 0 N ((lv .normal).zip (st i))) (hp i) (leafV N lv m)) (RoundV N id lv st hp (fun s' => s' = i + 1 ∧ i < len ∧ okI (i + 1)) K Q)) :
    SumOk Tryz.prog m0 (.block id (.loop c)) (atS N (lv .normal) m (st 0) (hp 0) out) := by
  refine loop_atG (n := n) Γ hΓ st hp (fun i => okI i ∧ i ≤ len) (fun i => len - i) 0 Λ hr hm ⟨h0, Nat.zero_le _⟩ fun K Q hk i hi => ?_
  obtain ⟨h1, h2⟩ := h K Q hk i hi.1 hi.2
  refine ⟨h1, ⟨res_mono (fun e vs H' hq => ?_) h2.out⟩⟩
  cases e with
  | normal =>
    obtain ⟨s', ⟨rfl, hlt, hok⟩, h3, h4⟩ := hq
    exact ⟨_, ⟨⟨hok, hlt⟩, by omega⟩, h3, h4⟩
  | exit j => exact hq
  | ret => exact hq

end Go.Proofs.YtddhmidegldhdaaGreatDoor

/- l91Cyc: an exact point, whatever the bytes are. Conditions: those of pick. -/
namespace Go.Proofs.YtddhmidegldhdaaGreatDoor
open Go.RowKit
set_option maxRecDepth 100000

def caF (l : Nat) (b : Nat → Int) (p : Int) : Nat → Nat → Int
  | 0 => fun _ => 0
  | i + 1 => fun k => if (k : Int) = pkV l b (p + 2 * (i : Int)) 8 then W (pkV l b (p + 2 * (i : Int) + 1) 9 - 4) else caF l b p i k
theorem caF_next (l : Nat) (b : Nat → Int) (p : Int) (i : Nat) {q : Int} (h : pkV l b (p + 2 * (i : Int)) 8 = q) (k : Nat) : caF l b p (i + 1) k = if (k : Int) = q then W (pkV l b (p + 2 * (i : Int) + 1) 9 - 4) else caF l b p i k := by
  subst h; rfl
theorem sumCy (l : Nat) (c : Option Nat) (p : Int) (m : Nat) (b : Nat → Int) (tr tb : TypeId) (N : Nat) (hb : okB m (rowB b) = true) (hl : l ≤ m) (h0 : 0 ≤ p) (h1 : p + 2 * (N : Int) ≤ 2 ^ 30) (hm : 0 < m) :
    SumOk Tryz.prog 2 (.block 1 (.loop (loopAt 1 fCy))) (atS 57 (lvCy .normal) 2 (stCy N 0) (hpCy l c p m b tr tb fun _ => 0) (fun K => K .normal (mkT 0 57 [(0, .ptr 0 0 0 0), (2, .ptr 2 0 0 0), (3, .ptr 3 0 0 0)]) (hpCy l c (p + 2 * (N : Int)) m b tr tb (caF l b p N)))) := by
  have e0 : hpCy l c p m b tr tb (fun _ => 0) = hpCy l c (p + 2 * ((0 : Nat) : Int)) m b tr tb (caF l b p 0) := by
    rw [show p + 2 * ((0 : Nat) : Int) = p by omega]
    rfl
  rw [e0]
  refine for_atG (n := 100) (m := 2) (lv := lvCy) (fun i => gmPJ pkV 8 (pkV l b (p + 2 * (i : Int)) 8)) (fun i => ext_ok g0_ok (ok_pickJ _ _)) (fun i => stCy N i) (fun i => hpCy l c (p + 2 * (i : Int)) m b tr tb (caF l b p i)) (fun _ => True) N (fun _ => noLam) (lv3_ris rfl rfl rfl) (Nat.le_refl _) trivial fun K Q hk i _ hi => ⟨noLam_ok _ _ _, ?_⟩
  show GoodQ (exCy pkV l c (p + 2 * (i : Int)) m b tr tb (caF l b p i) N i (pkV l b (p + 2 * (i : Int)) 8)) _
  have q0 := pkV_nn l b (p + 2 * (i : Int)) 8
  have q1 := pkV_lt l b (p + 2 * (i : Int)) (n := 8) (by omega)
  have key := fun (q : Int) (h : pkV l b (p + 2 * (i : Int)) 8 = q) => caF_next l b p i h
  have e2 : p + 2 * (i : Int) + 1 + 1 = p + 2 * ((i + 1 : Nat) : Int) := by omega
  generalize hq : pkV l b (p + 2 * (i : Int)) 8 = q at q0 q1 ⊢
  have hc := key q hq
  rcases (by omega : q = 0 ∨ q = 1 ∨ q = 2 ∨ q = 3 ∨ q = 4 ∨ q = 5 ∨ q = 6 ∨ q = 7) with rfl | rfl | rfl | rfl | rfl | rfl | rfl | rfl
  all_goals first | rw [rndCy0] | rw [rndCy1] | rw [rndCy2] | rw [rndCy3] | rw [rndCy4] | rw [rndCy5] | rw [rndCy6] | rw [rndCy7]
  all_goals
    refine good_cond (fun c1 => ?_) fun c1 => ?_
    · have c1 := of_decide_eq_true c1
      refine good_needs ?_ (good_out ⟨i + 1, ⟨rfl, by omega, trivial⟩, ?_, ?_⟩)
      · simp only [ob_cons, ob_nil, and_true, decide_eq_true_eq, itB_row, hb, hq, true_and]
        omega
      · rw [wr_in (x := (i : Int) + 1) (by omega)]
        rfl
      · show Hsim _ (hpCy l c (p + 2 * ((i + 1 : Nat) : Int)) m b tr tb (caF l b p (i + 1)))
        rw [← e2]
        unfold hpCy cyC
        rw [hc 0, hc 1, hc 2, hc 3, hc 4, hc 5, hc 6, hc 7]
        exact Hsim.refl _
    · have c1 := of_decide_eq_false c1
      have : i = N := by omega
      subst this
      refine good_out ⟨_, Hsim.refl _, ?_⟩
      rw [if_pos rfl]
      exact hk

theorem gmCy_ok : GamOk Tryz.prog (gmCy pkV (fun n => inR n 0 23) (fun a n => turnedF a n.toNat)) := by
  unfold gmCy
  rw [fIsO_eq, FtuO_eq]
  exact ext_ok (ext_ok (ext_ok g0_ok ok_pick) ok_l1Is) ok_turnedS
theorem cyc_ex (l : Nat) (b : Nat → Int) (p : Int) : ∃ (a : Nat → Int) (p' : Int), (p ≤ p' ∧ p' ≤ p + 12) ∧ ∀ (c : Option Nat) (m : Nat) (tr tb : TypeId), okB m (rowB b) = true → l ≤ m → 0 ≤ p → p ≤ 2 ^ 29 → 0 < m → ∃ Λ, (∀ cc, fCy.body = some cc → LamOk Tryz.prog 2 Λ cc) ∧
    GoodQ (execF Tryz.prog (gmCy pkV (fun n => inR n 0 23) (fun a n => turnedF a n.toNat)) Λ 100 fCy [.ptr 0 0 0 0] (hpRd l c p m b tr tb) (packK 2)) (fun _ vs He => vs = [.agg (cyC a)] ∧ Hsim He (hpRd l c p' m b tr tb)) := by
  have n0 := pkV_nn l b (p + 1) 3
  have n1 := pkV_lt l b (p + 1) (n := 3) (by omega)
  obtain ⟨N, hN⟩ : ∃ N : Nat, (N : Int) = 1 + pkV l b (p + 1) 3 := ⟨(1 + pkV l b (p + 1) 3).toNat, by omega⟩
  have lam : ∀ (c : Option Nat) (m : Nat) (tr tb : TypeId), okB m (rowB b) = true → l ≤ m → 0 ≤ p → p ≤ 2 ^ 29 → 0 < m → (∀ cc, fCy.body = some cc → LamOk Tryz.prog 2 (lamCy l c m b tr tb N (p + 1 + 1) (p + 1 + 1 + 2 * (N : Int)) (caF l b (p + 1 + 1) N)) cc) :=
    fun c m tr tb hb hl h0 h1 hm => lam1 (by kernel_rfl) (sumCy l c (p + 1 + 1) m b tr tb N hb hl (by omega) (by omega) hm)
  have ob1 : ∀ (m : Nat), okB m (rowB b) = true → l ≤ m → 0 < m → ∀ x : Int, 0 ≤ x → x ≤ 2 ^ 30 → obls [okB m (rowB b), decide (l ≤ m), decide (0 ≤ x), decide (x ≤ 1073741824), decide (0 < m)] = true := fun m hb hl hm x hx hx2 => by
    simp only [ob_cons, ob_nil, and_true, decide_eq_true_eq, hb, true_and]
    omega
  by_cases c0 : pkV l b p 8 = 0
  · have r0 := pkV_nn l b (p + 1) 24
    have r1 := pkV_lt l b (p + 1) (n := 24) (by omega)
    have ri : inR (pkV l b (p + 1) 24) 0 23 = true := by
      unfold inR
      simp only [Bool.and_eq_true, decide_eq_true_eq]
      omega
    refine ⟨turnedF (v8 1 0 0 0 0 0 0 0) (pkV l b (p + 1) 24).toNat, p + 1 + 1, by omega, fun c m tr tb hb hl h0 h1 hm => ⟨_, lam c m tr tb hb hl h0 h1 hm, ?_⟩⟩
    rw [treeCy]
    refine good_needs (ob1 m hb hl hm _ h0 (by omega)) (good_true (beq_iff_eq.2 c0) (good_needs (ob1 m hb hl hm _ (by omega) (by omega)) (good_false ?_ (good_needs ?_ (good_out ⟨rfl, Hsim.refl _⟩)))))
    · rw [itB_row, ri]; rfl
    · rw [ob_cons]
      exact ⟨decide_eq_true (show pkV l b (p + 1) 24 ≤ 1099511627776 by omega), rfl⟩
  · by_cases c1 : pkV l b p 8 = 1
    · refine ⟨v8 (W (pkV l b (p + 1) 9 - 4)) 0 0 0 0 0 (W (pkV l b (p + 1 + 1) 9 - 4)) 0, p + 1 + 1 + 1, by omega, fun c m tr tb hb hl h0 h1 hm => ⟨_, lam c m tr tb hb hl h0 h1 hm, ?_⟩⟩
      rw [treeCy]
      refine good_needs (ob1 m hb hl hm _ h0 (by omega)) (good_false (beq_eq_false_iff_ne.2 c0) (good_true (beq_iff_eq.2 c1) (good_needs ?_ (good_out ⟨rfl, Hsim.refl _⟩))))
      simp only [ob_cons, ob_nil, and_true, decide_eq_true_eq, hb, true_and]
      omega
    · by_cases c2 : pkV l b p 8 = 2
      · refine ⟨fun _ => 0, p + 1, by omega, fun c m tr tb hb hl h0 h1 hm => ⟨_, lam c m tr tb hb hl h0 h1 hm, ?_⟩⟩
        rw [treeCy]
        exact good_needs (ob1 m hb hl hm _ h0 (by omega)) (good_false (beq_eq_false_iff_ne.2 c0) (good_false (beq_eq_false_iff_ne.2 c1) (good_true (beq_iff_eq.2 c2) (good_out ⟨rfl, Hsim.refl _⟩))))
      · have ob2 : ∀ (c : Option Nat) (m : Nat) (tr tb : TypeId), okB m (rowB b) = true → l ≤ m → 0 ≤ p → p ≤ 2 ^ 29 → 0 < m → obls [okB m (rowB b), decide (l ≤ m), decide (0 ≤ p + 1), decide (p + 1 ≤ 1073741824), decide (0 < m), chk ([AV.ptr 0 0 0 0, AV.ptr 2 0 0 0, AV.ptr 3 0 0 0, AV.v (i64 (W (1 + pkV l b (p + 1) 3))), AV.v (i64 0)] = stCy N 0 ∧ Hsim (hpCy l c (p + 1 + 1) m b tr tb fun _ => 0) (hpCy l c (p + 1 + 1) m b tr tb fun _ => 0)), okB m (rowB b), decide (l ≤ m), decide (0 ≤ p + 1 + 1 + 2 * (N : Int)), decide (p + 1 + 1 + 2 * (N : Int) ≤ 1073741824), decide (0 < m)] = true := fun c m tr tb hb hl h0 h1 hm => by
          simp only [ob_cons, ob_nil, and_true, decide_eq_true_eq, hb, true_and]
          refine ⟨by omega, by omega, by omega, by omega, chk_of ⟨?_, Hsim.refl _⟩, by omega, by omega, by omega, by omega⟩
          rw [w64_in (x := 1 + pkV l b (p + 1) 3) (by omega) (by omega), ← hN]
          rfl
        by_cases c3 : pkV l b (p + 1 + 1 + 2 * (N : Int)) 30 = 0
        · refine ⟨v8 1000001 (caF l b (p + 1 + 1) N 1) (caF l b (p + 1 + 1) N 2) (caF l b (p + 1 + 1) N 3) (caF l b (p + 1 + 1) N 4) (caF l b (p + 1 + 1) N 5) (caF l b (p + 1 + 1) N 6) (caF l b (p + 1 + 1) N 7), p + 1 + 1 + 2 * (N : Int) + 1, by omega, fun c m tr tb hb hl h0 h1 hm => ⟨_, lam c m tr tb hb hl h0 h1 hm, ?_⟩⟩
          rw [treeCy]
          exact good_needs (ob1 m hb hl hm _ h0 (by omega)) (good_false (beq_eq_false_iff_ne.2 c0) (good_false (beq_eq_false_iff_ne.2 c1) (good_false (beq_eq_false_iff_ne.2 c2) (good_needs (ob2 c m tr tb hb hl h0 h1 hm) (good_true (beq_iff_eq.2 c3) (good_out ⟨rfl, Hsim.refl _⟩))))))
        · by_cases c4 : pkV l b (p + 1 + 1 + 2 * (N : Int)) 30 = 1
          · refine ⟨v8 (caF l b (p + 1 + 1) N 0) (caF l b (p + 1 + 1) N 1) (caF l b (p + 1 + 1) N 2) (caF l b (p + 1 + 1) N 3) (caF l b (p + 1 + 1) N 4) (caF l b (p + 1 + 1) N 5) (caF l b (p + 1 + 1) N 6) 1000000, p + 1 + 1 + 2 * (N : Int) + 1, by omega, fun c m tr tb hb hl h0 h1 hm => ⟨_, lam c m tr tb hb hl h0 h1 hm, ?_⟩⟩
            rw [treeCy]
            exact good_needs (ob1 m hb hl hm _ h0 (by omega)) (good_false (beq_eq_false_iff_ne.2 c0) (good_false (beq_eq_false_iff_ne.2 c1) (good_false (beq_eq_false_iff_ne.2 c2) (good_needs (ob2 c m tr tb hb hl h0 h1 hm) (good_false (beq_eq_false_iff_ne.2 c3) (good_true (beq_iff_eq.2 c4) (good_out ⟨rfl, Hsim.refl _⟩)))))))
          · refine ⟨caF l b (p + 1 + 1) N, p + 1 + 1 + 2 * (N : Int) + 1, by omega, fun c m tr tb hb hl h0 h1 hm => ⟨_, lam c m tr tb hb hl h0 h1 hm, ?_⟩⟩
            rw [treeCy]
            exact good_needs (ob1 m hb hl hm _ h0 (by omega)) (good_false (beq_eq_false_iff_ne.2 c0) (good_false (beq_eq_false_iff_ne.2 c1) (good_false (beq_eq_false_iff_ne.2 c2) (good_needs (ob2 c m tr tb hb hl h0 h1 hm) (good_false (beq_eq_false_iff_ne.2 c3) (good_false (beq_eq_false_iff_ne.2 c4) (good_out ⟨rfl, Hsim.refl _⟩)))))))

noncomputable def cyF (l : Nat) (b : Nat → Int) (p : Int) : Nat → Int := (cyc_ex l b p).choose
noncomputable def cyP (l : Nat) (b : Nat → Int) (p : Int) : Int := (cyc_ex l b p).choose_spec.choose
theorem cyP_in (l : Nat) (b : Nat → Int) (p : Int) : p ≤ cyP l b p ∧ cyP l b p ≤ p + 12 := (cyc_ex l b p).choose_spec.choose_spec.1
def FcyO (cf : Nat → (Nat → Int) → Int → Nat → Int) (cp : Nat → (Nat → Int) → Int → Int) : List AV → List AB → Option HR
  | [.ptr 0 0 0 0], [.cells [.sl 1 1 0 0 l c, .v (.int .i64 p)] tr, .row false m 1 g tb] => some { val := .agg (cyC (cf l (itB g) p)), out := [.cells [.sl 1 1 0 0 l c, .v (.int .i64 (cp l (itB g) p))] tr, .row false m 1 g tb], obl := [okB m g, decide (l ≤ m), decide (0 ≤ p), decide (p ≤ 2 ^ 29), decide (0 < m)] }
  | _, _ => none
theorem okB_it {m : Nat} {g : Nat → List Value} (h : okB m g = true) : okB m (rowB (itB g)) = true := List.all_eq_true.2 fun j hj => by
  have := List.all_eq_true.1 h j hj
  rwa [(okB_get h (by simpa using hj)).1] at this
theorem ok_cyc : SpecOk Tryz.prog 175 (specK [] (FcyO cyF cyP)) := by
  refine specK_ok gmCy_ok Tryz.func175 rfl fun avs H hr hF ho => ?_
  unfold FcyO at hF
  split at hF
  · rename_i l c p tr m g tb
    cases hF
    simp only [ob_cons, decide_eq_true_eq] at ho
    obtain ⟨h1, h2, h3, h4, h5, _⟩ := ho
    obtain ⟨Λ, e1, e2⟩ := (cyc_ex l (itB g) p).choose_spec.choose_spec.2 c m tr tb (okB_it h1) h2 h3 h4 h5
    refine ⟨hpRd l c p m (itB g) tr tb, Λ, 100, rd_sim h1, e1, ⟨res_mono (fun e vs He hq => ?_) e2.out⟩⟩
    exact ⟨hq.1, hq.2.trans' (rd_sim' h1)⟩
  · cases hF

end Go.Proofs.YtddhmidegldhdaaGreatDoor

/- l91Turn and l91Design: their trees. Conditions: those of pick. -/
namespace Go.Proofs.YtddhmidegldhdaaGreatDoor
open Go.RowKit
set_option maxRecDepth 100000

def gmPk (pk : Nat → (Nat → Int) → Int → Int → Int) : Gam := ext g0 32 (specK [] (FpkO pk))
noncomputable abbrev fDs : Func := Tryz.f174
def gmDs (pk : Nat → (Nat → Int) → Int → Int → Int) (cf : Nat → (Nat → Int) → Int → Nat → Int) (cp : Nat → (Nat → Int) → Int → Int) : Gam := ext (gmPk pk) 175 (specK [] (FcyO cf cp))
abbrev lvDs : Ex → List Nat := lv3 [0, 3, 4, 5] [0, 3] [2]
abbrev stDs (n : Nat) (i : Nat) : List AV := [.ptr 0 0 0 0, .own 2 i, .v (i64 n), .v (i64 i)]
abbrev hpDs (l : Nat) (c : Option Nat) (p : Int) (m : Nat) (b : Nat → Int) (tr tb : TypeId) (k : Nat) (h : Nat → Nat → Int) : List AB := [.cells [.sl 1 1 0 0 l c, .v (i64 p)] tr, .row false m 1 (rowB b) tb, .row true k 9 (row9 h) 60]
theorem rndDs (pk : Nat → (Nat → Int) → Int → Int → Int) (cf : Nat → (Nat → Int) → Int → Nat → Int) (cp : Nat → (Nat → Int) → Int → Int) (l : Nat) (c : Option Nat) (p : Int) (m : Nat) (b : Nat → Int) (tr tb : TypeId) (h : Nat → Nat → Int) (n : Nat) (i : Nat) : execC Tryz.prog (gmDs pk cf cp) 100 noLam (loopAt 0 fDs) (mkT 0 40 ((lvDs .normal).zip (stDs n i))) (hpDs l c p m b tr tb i h) (leafV 40 lvDs 2)
    = bif decide ((↑i : Int) < (↑n : Int)) then needs [okB m (rowB b), decide (l ≤ m), decide ((0 : Int) ≤ p), decide (p ≤ (1073741824 : Int)), decide ((0 : Nat) < m), okB m (rowB b), decide (l ≤ m), decide ((0 : Int) ≤ p + (1 : Int)), decide (p + (1 : Int) ≤ (536870912 : Int)), decide ((0 : Nat) < m), decide ((0 : Nat) < m), Nat.ble i i, Nat.ble (i + (1 : Nat)) (549755813888 : Nat)] (Res.out .normal [AV.ptr (0 : Nat) (0 : Nat) (0 : Nat) (0 : Nat), AV.own 2 (i + (1 : Nat)), AV.v (.int .i64 (↑n : Int)), AV.v (.int .i64 (IntKind.wrap .i64 ((↑i : Int) + (1 : Int))))] [AB.cells [AV.sl 1 (1 : Nat) (0 : Nat) (0 : Nat) l c, AV.v (.int .i64 (cp l (itB (rowB b)) (p + (1 : Int))))] tr, AB.row false m 1 (rowB b) tb, AB.row true (i + (1 : Nat)) (9 : Nat) (fun q ↦ [Value.int .i64 (bif Nat.blt q i then h q (0 : Nat) else IntKind.wrap .i64 (pk l (itB (rowB b)) p (13 : Int) - (6 : Int))), Value.int .i64 (bif Nat.blt q i then h q (1 : Nat) else cf l (itB (rowB b)) (p + (1 : Int)) (0 : Nat)), Value.int .i64 (bif Nat.blt q i then h q (2 : Nat) else cf l (itB (rowB b)) (p + (1 : Int)) (1 : Nat)), Value.int .i64 (bif Nat.blt q i then h q (3 : Nat) else cf l (itB (rowB b)) (p + (1 : Int)) (2 : Nat)), Value.int .i64 (bif Nat.blt q i then h q (4 : Nat) else cf l (itB (rowB b)) (p + (1 : Int)) (3 : Nat)), Value.int .i64 (bif Nat.blt q i then h q (5 : Nat) else cf l (itB (rowB b)) (p + (1 : Int)) (4 : Nat)), Value.int .i64 (bif Nat.blt q i then h q (6 : Nat) else cf l (itB (rowB b)) (p + (1 : Int)) (5 : Nat)), Value.int .i64 (bif Nat.blt q i then h q (7 : Nat) else cf l (itB (rowB b)) (p + (1 : Int)) (6 : Nat)), Value.int .i64 (bif Nat.blt q i then h q (8 : Nat) else cf l (itB (rowB b)) (p + (1 : Int)) (7 : Nat))]) (60 : Nat)]) else Res.out (Ex.exit (0 : Nat)) [AV.ptr (0 : Nat) (0 : Nat) (0 : Nat) (0 : Nat), AV.own 2 i] [AB.cells [AV.sl 1 (1 : Nat) (0 : Nat) (0 : Nat) l c, AV.v (.int .i64 p)] tr, AB.row false m 1 (rowB b) tb, AB.row true i 9 (row9 h) 60] := by kernel_rfl

noncomputable abbrev lamDs (l : Nat) (c : Option Nat) (m : Nat) (b : Nat → Int) (tr tb : TypeId) (n : Nat) (p1 p2 : Int) (h : Nat → Nat → Int) : Nat → Option Sum := oneL 0 (atS 40 (lvDs .normal) 2 (stDs n 0) (hpDs l c p1 m b tr tb 0 (wfun [])) (fun K => K .normal (mkT 0 40 [(0, .ptr 0 0 0 0), (3, .own 2 n)]) (hpDs l c p2 m b tr tb n h)))
theorem treeDs_h (pk : Nat → (Nat → Int) → Int → Int → Int) (cf : Nat → (Nat → Int) → Int → Nat → Int) (cp : Nat → (Nat → Int) → Int → Int) (l : Nat) (c : Option Nat) (p : Int) (m : Nat) (b : Nat → Int) (tr tb : TypeId) (n : Nat) (p1 p2 : Int) (h : Nat → Nat → Int) (u1 : _) (hu1 : (n + n) = u1) (u2 : _) (hu2 : (0 : Nat) = u2) (u4 : _) (hu4 : (1 : Nat) = u4) (u5 : _) (hu5 : (0 : Int) = u5) (u6 : _) (hu6 : (2 : Nat) = u6) (u0 : _) (hu0 : (AB.cells [AV.sl u4 u4 u2 u2 l c, AV.v (.int .i64 (p2 + (1 : Int)))] tr) = u0) (u3 : _) (hu3 : (AB.row false m u4 (rowB b) tb) = u3) : execF Tryz.prog (gmDs pk cf cp) (lamDs l c m b tr tb n p1 p2 h) 100 fDs [.ptr 0 0 0 0] (hpRd l c p m b tr tb) (packK 2)
    = needs [okB m (rowB b), decide (l ≤ m), decide (u5 ≤ p), decide (p ≤ (1073741824 : Int)), decide (u2 < m), chk ([AV.ptr u2 u2 u2 u2, AV.own u6 u2, AV.v (.int .i64 (pk l (itB (rowB b)) p (4 : Int))), AV.v (.int .i64 u5)] = stDs n u2 ∧ Hsim [AB.cells [AV.sl u4 u4 u2 u2 l c, AV.v (.int .i64 (p + (1 : Int)))] tr, u3, AB.row true u2 9 (fun _ ↦ []) (60 : Nat)] (hpDs l c p1 m b tr tb u2 (wfun []))), okB m (rowB b), decide (l ≤ m), decide (u5 ≤ p2), decide (p2 ≤ (1073741824 : Int)), decide (u2 < m)] (bif pk l (itB (rowB b)) p2 (30 : Int) == u5 then needs [Nat.ble n n, Nat.ble (n + u4) (549755813888 : Nat)] (Res.out .ret [AV.own u6 (n + u4)] [u0, u3, AB.row true (n + u4) (9 : Nat) (fun q ↦ [Value.int .i64 (bif Nat.blt q n then h q u2 else (1001 : Int)), Value.int .i64 (bif Nat.blt q n then h q u4 else u5), Value.int .i64 (bif Nat.blt q n then h q u6 else u5), Value.int .i64 (bif Nat.blt q n then h q (3 : Nat) else u5), Value.int .i64 (bif Nat.blt q n then h q (4 : Nat) else u5), Value.int .i64 (bif Nat.blt q n then h q (5 : Nat) else u5), Value.int .i64 (bif Nat.blt q n then h q (6 : Nat) else u5), Value.int .i64 (bif Nat.blt q n then h q (7 : Nat) else u5), Value.int .i64 (bif Nat.blt q n then h q (8 : Nat) else u5)]) (60 : Nat)]) else bif pk l (itB (rowB b)) p2 (30 : Int) == (1 : Int) then needs [Nat.ble n n, Nat.ble u1 (549755813888 : Nat), Nat.ble n n, Nat.ble u1 u1, Nat.ble (n + n + u1) (549755813888 : Nat), Nat.ble u1 u1] (Res.out .ret [AV.own u6 (n + n + u1)] [u0, u3, AB.row true (n + n + u1) (9 : Nat) (fun q ↦ [Value.int .i64 (bif Nat.blt q u1 then bif Nat.blt q n then h q u2 else h (q - n) u2 else bif Nat.blt (q - u1) n then h (q - u1) u2 else h (q - u1 - n) u2), Value.int .i64 (bif Nat.blt q u1 then bif Nat.blt q n then h q u4 else h (q - n) u4 else bif Nat.blt (q - u1) n then h (q - u1) u4 else h (q - u1 - n) u4), Value.int .i64 (bif Nat.blt q u1 then bif Nat.blt q n then h q u6 else h (q - n) u6 else bif Nat.blt (q - u1) n then h (q - u1) u6 else h (q - u1 - n) u6), Value.int .i64 (bif Nat.blt q u1 then bif Nat.blt q n then h q (3 : Nat) else h (q - n) (3 : Nat) else bif Nat.blt (q - u1) n then h (q - u1) (3 : Nat) else h (q - u1 - n) (3 : Nat)), Value.int .i64 (bif Nat.blt q u1 then bif Nat.blt q n then h q (4 : Nat) else h (q - n) (4 : Nat) else bif Nat.blt (q - u1) n then h (q - u1) (4 : Nat) else h (q - u1 - n) (4 : Nat)), Value.int .i64 (bif Nat.blt q u1 then bif Nat.blt q n then h q (5 : Nat) else h (q - n) (5 : Nat) else bif Nat.blt (q - u1) n then h (q - u1) (5 : Nat) else h (q - u1 - n) (5 : Nat)), Value.int .i64 (bif Nat.blt q u1 then bif Nat.blt q n then h q (6 : Nat) else h (q - n) (6 : Nat) else bif Nat.blt (q - u1) n then h (q - u1) (6 : Nat) else h (q - u1 - n) (6 : Nat)), Value.int .i64 (bif Nat.blt q u1 then bif Nat.blt q n then h q (7 : Nat) else h (q - n) (7 : Nat) else bif Nat.blt (q - u1) n then h (q - u1) (7 : Nat) else h (q - u1 - n) (7 : Nat)), Value.int .i64 (bif Nat.blt q u1 then bif Nat.blt q n then h q (8 : Nat) else h (q - n) (8 : Nat) else bif Nat.blt (q - u1) n then h (q - u1) (8 : Nat) else h (q - u1 - n) (8 : Nat))]) (60 : Nat)]) else Res.out .ret [AV.own u6 n] [u0, u3, AB.row true n 9 (row9 h) 60]) := by
  subst hu3 hu0 hu6 hu5 hu4 hu2 hu1
  kernel_rfl
theorem treeDs (pk : Nat → (Nat → Int) → Int → Int → Int) (cf : Nat → (Nat → Int) → Int → Nat → Int) (cp : Nat → (Nat → Int) → Int → Int) (l : Nat) (c : Option Nat) (p : Int) (m : Nat) (b : Nat → Int) (tr tb : TypeId) (n : Nat) (p1 p2 : Int) (h : Nat → Nat → Int) : type_of% (treeDs_h pk cf cp l c p m b tr tb n p1 p2 h _ rfl _ rfl _ rfl _ rfl _ rfl _ rfl _ rfl) := treeDs_h pk cf cp l c p m b tr tb n p1 p2 h _ rfl _ rfl _ rfl _ rfl _ rfl _ rfl _ rfl

end Go.Proofs.YtddhmidegldhdaaGreatDoor

/- l91Turn and l91Design: a number and a list of wheels, whatever the bytes are. Conditions: those of pick. -/
namespace Go.Proofs.YtddhmidegldhdaaGreatDoor
open Go.RowKit
set_option maxRecDepth 100000

theorem obP {l m : Nat} {b : Nat → Int} {M : Int} {x : Int} (hb : okB m (rowB b) = true) (hl : l ≤ m) (hm : 0 < m) (h0 : 0 ≤ x) (h1 : x ≤ M) : obls [okB m (rowB b), decide (l ≤ m), decide (0 ≤ x), decide (x ≤ M), decide (0 < m)] = true := by
  simp only [ob_cons, ob_nil, and_true, decide_eq_true_eq, hb, true_and]
  exact ⟨hl, h0, h1, hm⟩
noncomputable def dsP (l : Nat) (b : Nat → Int) (p : Int) : Nat → Int
  | 0 => p
  | i + 1 => cyP l b (dsP l b p i + 1)
noncomputable def dsL (l : Nat) (b : Nat → Int) (p : Int) : Nat → List Wh
  | 0 => []
  | i + 1 => dsL l b p i ++ [⟨W (pkV l b (dsP l b p i) 13 - 6), cyOf (cyF l b (dsP l b p i + 1))⟩]
theorem dsP_in (l : Nat) (b : Nat → Int) (p : Int) : ∀ i : Nat, p ≤ dsP l b p i ∧ dsP l b p i ≤ p + 13 * (i : Int)
  | 0 => by show p ≤ p ∧ p ≤ p + 13 * ((0 : Nat) : Int); omega
  | i + 1 => by
    have ih := dsP_in l b p i
    have := cyP_in l b (dsP l b p i + 1)
    show p ≤ cyP l b (dsP l b p i + 1) ∧ cyP l b (dsP l b p i + 1) ≤ p + 13 * ((i + 1 : Nat) : Int)
    omega
theorem dsL_len (l : Nat) (b : Nat → Int) (p : Int) : ∀ i : Nat, (dsL l b p i).length = i
  | 0 => rfl
  | i + 1 => by
    show (dsL l b p i ++ [_]).length = i + 1
    rw [List.length_append, dsL_len l b p i]
    rfl
theorem gmDs_ok : GamOk Tryz.prog (gmDs pkV cyF cyP) := ext_ok (ext_ok g0_ok ok_pick) ok_cyc
theorem sumDs (l : Nat) (c : Option Nat) (p : Int) (m : Nat) (b : Nat → Int) (tr tb : TypeId) (N : Nat) (hN : N ≤ 3) (hb : okB m (rowB b) = true) (hl : l ≤ m) (h0 : 0 ≤ p) (h1 : p ≤ 2 ^ 28) (hm : 0 < m) :
    SumOk Tryz.prog 2 (.block 0 (.loop (loopAt 0 fDs))) (atS 40 (lvDs .normal) 2 (stDs N 0) (hpDs l c p m b tr tb 0 (wfun [])) (fun K => K .normal (mkT 0 40 [(0, .ptr 0 0 0 0), (3, .own 2 N)]) (hpDs l c (dsP l b p N) m b tr tb N (wfun (dsL l b p N))))) := by
  refine for_at gmDs_ok (n := 100) (m := 2) (lv := lvDs) (fun i => stDs N i) (fun i => hpDs l c (dsP l b p i) m b tr tb i (wfun (dsL l b p i))) (fun _ => True) N (fun _ => noLam) (lv3_ris rfl rfl rfl) (Nat.le_refl _) trivial fun K Q hk i _ hi => ⟨noLam_ok _ _ _, ?_⟩
  rw [rndDs]
  have hp := dsP_in l b p i
  refine good_cond (fun c1 => ?_) fun c1 => ?_
  · have c1 := of_decide_eq_true c1
    refine good_needs ?_ (good_out ⟨i + 1, ⟨rfl, by omega, trivial⟩, ?_, ?_⟩)
    · simp only [ob_cons, ob_nil, and_true, decide_eq_true_eq, Nat.ble_eq, hb, true_and]
      omega
    · rw [wr_in (x := (i : Int) + 1) (by omega)]
      rfl
    · refine .cons (ABeq.refl _) (.cons (ABeq.refl _) (.cons (ABeq.row fun q hq => ?_) .nil))
      exact ch_row (dsL l b p i) ⟨W (pkV l b (dsP l b p i) 13 - 6), cyOf (cyF l b (dsP l b p i + 1))⟩ i (dsL_len l b p i) q hq
  · have c1 := of_decide_eq_false c1
    have : i = N := by omega
    subst this
    refine good_out ⟨_, Hsim.refl _, ?_⟩
    rw [if_pos rfl]
    exact hk

theorem wfun_app (A B : List Wh) (q k : Nat) : wfun (A ++ B) q k = bif Nat.blt q A.length then wfun A q k else wfun B (q - A.length) k := by
  unfold wfun
  by_cases h : q < A.length
  · rw [List.getElem?_append_left h, blt_yes h]
    rfl
  · have hb : Nat.blt q A.length = false := by
      cases hb : Nat.blt q A.length with
      | false => rfl
      | true => rw [Nat.blt_eq] at hb; omega
    rw [List.getElem?_append_right (by omega), hb]
    rfl
theorem ds_ex (l : Nat) (b : Nat → Int) (p : Int) : ∃ (L : List Wh) (p' : Int), (p ≤ p' ∧ p' ≤ p + 64) ∧ L.length ≤ 12 ∧ ∀ (c : Option Nat) (m : Nat) (tr tb : TypeId), okB m (rowB b) = true → l ≤ m → 0 ≤ p → p ≤ 2 ^ 27 → 0 < m → ∃ Λ, (∀ cc, fDs.body = some cc → LamOk Tryz.prog 2 Λ cc) ∧
    GoodQ (execF Tryz.prog (gmDs pkV cyF cyP) Λ 100 fDs [.ptr 0 0 0 0] (hpRd l c p m b tr tb) (packK 2)) (fun _ vs He => vs = [.own 2 L.length] ∧ Hsim He (hpDs l c p' m b tr tb L.length (wfun L))) := by
  have n0 := pkV_nn l b p 4
  have n1 := pkV_lt l b p (n := 4) (by omega)
  obtain ⟨N, hN⟩ : ∃ N : Nat, (N : Int) = pkV l b p 4 := ⟨(pkV l b p 4).toNat, by omega⟩
  have hN3 : N ≤ 3 := by omega
  have hD := dsL_len l b (p + 1) N
  have hP := dsP_in l b (p + 1) N
  have lam : ∀ (c : Option Nat) (m : Nat) (tr tb : TypeId), okB m (rowB b) = true → l ≤ m → 0 ≤ p → p ≤ 2 ^ 27 → 0 < m → (∀ cc, fDs.body = some cc → LamOk Tryz.prog 2 (lamDs l c m b tr tb N (p + 1) (dsP l b (p + 1) N) (wfun (dsL l b (p + 1) N))) cc) :=
    fun c m tr tb hb hl h0 h1 hm => lam1 (by kernel_rfl) (sumDs l c (p + 1) m b tr tb N hN3 hb hl (by omega) (by omega) hm)
  have ob1 : ∀ (c : Option Nat) (m : Nat) (tr tb : TypeId), okB m (rowB b) = true → l ≤ m → 0 ≤ p → p ≤ 2 ^ 27 → 0 < m → obls [okB m (rowB b), decide (l ≤ m), decide (0 ≤ p), decide (p ≤ 1073741824), decide (0 < m), chk ([AV.ptr 0 0 0 0, AV.own 2 0, AV.v (i64 (pkV l b p 4)), AV.v (i64 0)] = stDs N 0 ∧ Hsim [AB.cells [AV.sl 1 1 0 0 l c, AV.v (i64 (p + 1))] tr, AB.row false m 1 (rowB b) tb, AB.row true 0 9 (fun _ => []) 60] (hpDs l c (p + 1) m b tr tb 0 (wfun []))), okB m (rowB b), decide (l ≤ m), decide (0 ≤ dsP l b (p + 1) N), decide (dsP l b (p + 1) N ≤ 1073741824), decide (0 < m)] = true := fun c m tr tb hb hl h0 h1 hm => by
    simp only [ob_cons, ob_nil, and_true, decide_eq_true_eq, hb, true_and]
    refine ⟨by omega, by omega, by omega, by omega, chk_of ⟨?_, .cons (ABeq.refl _) (.cons (ABeq.refl _) (.cons (ABeq.row fun j hj => absurd hj (Nat.not_lt_zero _)) .nil))⟩, by omega, by omega, by omega, by omega⟩
    rw [← hN]
    rfl
  by_cases c0 : pkV l b (dsP l b (p + 1) N) 30 = 0
  · refine ⟨dsL l b (p + 1) N ++ [⟨1001, cyZ⟩], dsP l b (p + 1) N + 1, by omega, by rw [List.length_append, hD]; show N + 1 ≤ 12; omega, fun c m tr tb hb hl h0 h1 hm => ⟨_, lam c m tr tb hb hl h0 h1 hm, ?_⟩⟩
    rw [treeDs]
    refine good_needs (ob1 c m tr tb hb hl h0 h1 hm) (good_true (beq_iff_eq.2 c0) (good_needs ?_ (good_out ⟨?_, ?_⟩)))
    · simp only [ob_cons, ob_nil, and_true, Nat.ble_eq]
      omega
    · rw [List.length_append, hD]; rfl
    · rw [show (dsL l b (p + 1) N ++ [(⟨1001, cyZ⟩ : Wh)]).length = N + 1 by rw [List.length_append, hD]; rfl]
      exact .cons (ABeq.refl _) (.cons (ABeq.refl _) (.cons (ABeq.row fun q hq => ch_row (dsL l b (p + 1) N) ⟨1001, cyZ⟩ N hD q hq) .nil))
  · by_cases c1 : pkV l b (dsP l b (p + 1) N) 30 = 1
    · generalize hDD : dsL l b (p + 1) N = D at hD lam ob1
      have hD2 : (D ++ D).length = N + N := by rw [List.length_append, hD]
      have hD4 : ((D ++ D) ++ (D ++ D)).length = N + N + (N + N) := by rw [List.length_append, hD2]
      refine ⟨(D ++ D) ++ (D ++ D), dsP l b (p + 1) N + 1, by omega, by rw [hD4]; omega, fun c m tr tb hb hl h0 h1 hm => ⟨_, lam c m tr tb hb hl h0 h1 hm, ?_⟩⟩
      rw [treeDs]
      refine good_needs (ob1 c m tr tb hb hl h0 h1 hm) (good_false (beq_eq_false_iff_ne.2 c0) (good_true (beq_iff_eq.2 c1) (good_needs ?_ (good_out ⟨?_, ?_⟩))))
      · simp only [ob_cons, ob_nil, and_true, Nat.ble_eq]
        omega
      · rw [hD4]
      · rw [hD4]
        refine .cons (ABeq.refl _) (.cons (ABeq.refl _) (.cons (ABeq.row fun q hq => ?_) .nil))
        have hk : ∀ k, wfun ((D ++ D) ++ (D ++ D)) q k = bif Nat.blt q (N + N) then bif Nat.blt q N then wfun D q k else wfun D (q - N) k else bif Nat.blt (q - (N + N)) N then wfun D (q - (N + N)) k else wfun D (q - (N + N) - N) k := fun k => by
          rw [wfun_app, hD2, wfun_app, wfun_app, hD]
        unfold row9
        rw [hk 0, hk 1, hk 2, hk 3, hk 4, hk 5, hk 6, hk 7, hk 8]
    · refine ⟨dsL l b (p + 1) N, dsP l b (p + 1) N + 1, by omega, by rw [hD]; omega, fun c m tr tb hb hl h0 h1 hm => ⟨_, lam c m tr tb hb hl h0 h1 hm, ?_⟩⟩
      rw [treeDs]
      refine good_needs (ob1 c m tr tb hb hl h0 h1 hm) (good_false (beq_eq_false_iff_ne.2 c0) (good_false (beq_eq_false_iff_ne.2 c1) (good_out ⟨?_, ?_⟩)))
      · rw [hD]
      · rw [hD]
        exact Hsim.refl _
noncomputable def dgL (l : Nat) (b : Nat → Int) (p : Int) : List Wh := (ds_ex l b p).choose
noncomputable def dgP (l : Nat) (b : Nat → Int) (p : Int) : Int := (ds_ex l b p).choose_spec.choose
theorem dgP_in (l : Nat) (b : Nat → Int) (p : Int) : p ≤ dgP l b p ∧ dgP l b p ≤ p + 64 := (ds_ex l b p).choose_spec.choose_spec.1
theorem dgL_len (l : Nat) (b : Nat → Int) (p : Int) : (dgL l b p).length ≤ 12 := (ds_ex l b p).choose_spec.choose_spec.2.1
def FdgO (dl : Nat → (Nat → Int) → Int → List Wh) (dp : Nat → (Nat → Int) → Int → Int) : List AV → List AB → Option HR
  | [.ptr 0 0 0 0], [.cells [.sl 1 1 0 0 l c, .v (.int .i64 p)] tr, .row false m 1 g tb] => some { val := .own 2 (dl l (itB g) p).length, out := [.cells [.sl 1 1 0 0 l c, .v (.int .i64 (dp l (itB g) p))] tr, .row false m 1 g tb], new := [.row true (dl l (itB g) p).length 9 (row9 (wfun (dl l (itB g) p))) 60], obl := [okB m g, decide (l ≤ m), decide (0 ≤ p), decide (p ≤ 2 ^ 27), decide (0 < m)] }
  | _, _ => none
theorem ok_design : SpecOk Tryz.prog 174 (specK [] (FdgO dgL dgP)) := by
  refine specK_ok gmDs_ok Tryz.func174 rfl fun avs H hr hF ho => ?_
  unfold FdgO at hF
  split at hF
  · rename_i l c p tr m g tb
    cases hF
    simp only [ob_cons, decide_eq_true_eq] at ho
    obtain ⟨h1, h2, h3, h4, h5, _⟩ := ho
    obtain ⟨Λ, e1, e2⟩ := (ds_ex l (itB g) p).choose_spec.choose_spec.2.2 c m tr tb (okB_it h1) h2 h3 h4 h5
    refine ⟨hpRd l c p m (itB g) tr tb, Λ, 100, rd_sim h1, e1, ⟨res_mono (fun e vs He hq => ?_) e2.out⟩⟩
    refine ⟨hq.1, hq.2.trans' (.cons (ABeq.refl _) (.cons (ABeq.row fun j hj => (okB_get h1 hj).1.symm) (Hsim.refl _)))⟩
  · cases hF

end Go.Proofs.YtddhmidegldhdaaGreatDoor

/- What is drawn from bytes: the word of a drawing function. Conditions: bytes, at most 2^21. -/
namespace Go.Proofs.YtddhmidegldhdaaGreatDoor
open Go.RowKit
set_option maxRecDepth 100000

def md_co : List Md := [.rd 1 5]
def FdrO (R : Nat → (Nat → Int) → FR) : List SA → Option FR
  | [.row m g] => some { val := (R m (itB g)).val, new := (R m (itB g)).new, obl := [okB m g, decide (m ≤ 2 ^ 21)] }
  | _ => none
theorem draw_ok {f : FuncId} {fn : Func} {R : Nat → (Nat → Int) → FR} (hf : Tryz.prog.funcs[f]? = some fn) (hb : fn.body.isSome = true)
    (h1 : ∀ (m : Nat) (b : Nat → Int), 0 < m → m ≤ 2 ^ 21 → okB m (rowB b) = true → ∃ Γ, GamOk Tryz.prog Γ ∧ GoodQ (execF Tryz.prog Γ noLam 100 fn [.sl 0 1 0 0 m none] [.row false m 1 (rowB b) 5] (packK 1)) (GivR [.row false m 1 (rowB b) 5] (R m b)))
    (h0 : ∀ (q : Option Addr) (c : Nat) (g : Nat → List Value) (b : Nat → Int), ∃ Γ, GamOk Tryz.prog Γ ∧ GoodQ (execF Tryz.prog Γ noLam 100 fn [.v (.slice q 0 c)] [.row false 0 1 g 5] (packK 1)) (GivR [.row false 0 1 g 5] (R 0 b))) : SpecOk Tryz.prog f (specR md_co (FdrO R)) := by
  refine specR_calls enters hf hb fun sas fr hF ho => ?_
  unfold FdrO at hF
  split at hF
  · rename_i m g
    cases hF
    simp only [ob_cons, decide_eq_true_eq] at ho
    obtain ⟨e1, e2, _⟩ := ho
    by_cases hm : m = 0
    · subst hm
      refine ⟨[.row false 0 1 g 5], Hsim.refl _, fun M vals w ν hM hv hH hdom => ?_⟩
      have hv0 : VRs ν [.sl 0 1 0 0 0 none] vals := hv
      cases vals with
      | nil => simp only [VRs] at hv0
      | cons v vs =>
        cases vs with
        | cons => simp only [VRs] at hv0; exact hv0.2.elim
        | nil =>
          simp only [VRs, VR] at hv0
          obtain ⟨⟨q, c, rfl, _⟩, _⟩ := hv0
          obtain ⟨Γ, g1, g2⟩ := h0 q c g (itB g)
          have hv2 : VRs ν [.v (.slice q 0 c)] [.slice q 0 c] := by simp only [VRs, VR]; exact ⟨trivial, trivial⟩
          exact calls_pack g1 mixed enters hf (noLam' _) hM g2.out hv2 hH hdom
    · obtain ⟨Γ, g1, g2⟩ := h1 m (itB g) (by omega) e2 (okB_it e1)
      refine ⟨[.row false m 1 (rowB (itB g)) 5], .cons (ABeq.row fun j hj => (okB_get e1 hj).1) .nil, fun M vals w ν hM hv hH hdom => ?_⟩
      have g3 : GoodQ (execF Tryz.prog Γ noLam 100 fn [.sl 0 1 0 0 m none] [.row false m 1 (rowB (itB g)) 5] (packK 1)) (GivR (abP md_co [.row m g] []) { val := (R m (itB g)).val, new := (R m (itB g)).new, obl := [okB m g, decide (m ≤ 2 ^ 21)] }) :=
        ⟨res_mono (fun e vs He ⟨av, q1, q2, q3⟩ => ⟨av, q1, q2, q3.trans' (.cons (ABeq.row fun j hj => (okB_get e1 hj).1.symm) (Hsim.refl _))⟩) g2.out⟩
      exact calls_pack g1 mixed enters hf (noLam' _) hM g3.out hv hH hdom
  · cases hF

def lnB (m : Nat) : Nat := if 2000 < m then 2000 else m
def noneL : List Wh := [⟨1001, cyZ⟩]

end Go.Proofs.YtddhmidegldhdaaGreatDoor

/- What is drawn: lists of wheels, and numbers. No conditions. -/
namespace Go.Proofs.YtddhmidegldhdaaGreatDoor
open Go.RowKit
set_option maxRecDepth 100000

theorem ln_cut {m : Nat} (h : (m : Int) > 2000) : lnB m = 2000 := by unfold lnB; rw [if_pos (by omega)]
theorem ln_all {m : Nat} (h : ¬ (m : Int) > 2000) : lnB m = m := by unfold lnB; rw [if_neg (by omega)]
theorem good_ln {m : Nat} {Q : Ex → List AV → List AB → Prop} {ob1 ob2 : List Bool} {r1 r2 : Res}
    (h1 : lnB m = 2000 → (m : Int) > 2000 → obls ob1 = true ∧ GoodQ r1 Q) (h2 : lnB m = m → (m : Int) ≤ 2000 → obls ob2 = true ∧ GoodQ r2 Q) : GoodQ (bif decide ((m : Int) > 2000) then needs ob1 r1 else needs ob2 r2) Q := by
  refine good_cond (fun c => ?_) fun c => ?_
  · have c := of_decide_eq_true c
    exact good_needs (h1 (ln_cut c) c).1 (h1 (ln_cut c) c).2
  · have c := of_decide_eq_false c
    exact good_needs (h2 (ln_all c) (by omega)).1 (h2 (ln_all c) (by omega)).2

end Go.Proofs.YtddhmidegldhdaaGreatDoor

/- Helpers of the laws that draw. No conditions. -/
namespace Go.Proofs.YtddhmidegldhdaaGreatDoor
open Go.RowKit
set_option maxRecDepth 100000

theorem listW_me (L : List Wh) : listW (itW (row9 (wfun L))) L.length = L := listW_self L _ rfl
theorem say {c : Bool} {H : List AB} (h : c = true) : GoodQ (.out .ret [.v (.bool c)] H) SaysYes := by
  subst h
  exact good_out rfl
theorem b38 {n : Nat} (h : n ≤ 12) : decide (n ≤ 274877906944) = true := decide_eq_true (by omega)
theorem tI_spec {L : List Wh} (h : yI L = true) : okD L = true ∧ isTidy (tI L) ∧ ∀ φ, Lin φ → linS φ (tI L) = linS φ L := by
  have hT : tI L = tidyL L := by rw [tI, h]; rfl
  rw [yI, Bool.and_eq_true] at h
  rw [hT]
  exact ⟨h.1, tidyL_lin ((okD_bd h.1).mono (by omega)) h.2⟩
theorem eqL_me (L : List Wh) : eqL L L = true := decide_eq_true rfl
theorem isTidy_nil : isTidy [] := ⟨List.Pairwise.nil, fun w hw => by simp at hw, rfl⟩
theorem tI_tidy (L : List Wh) : isTidy (tI L) := by
  cases h : yI L with
  | true => exact (tI_spec h).2.1
  | false => rw [tI_no h]; exact isTidy_nil
theorem yI_self {T : List Wh} (h : isTidy T) : yI T = true := by
  rw [yI, tidy_okD h, okT_self h]
  rfl
theorem tI_self {T : List Wh} (h : isTidy T) : tI T = T := by
  rw [tI, yI_self h, cond_true, tidyL_self h]
end Go.Proofs.YtddhmidegldhdaaGreatDoor

/- What is written is read back; both sides read the same. Plain. No conditions. -/
namespace Go.Proofs.YtddhmidegldhdaaGreatDoor
open Go.RowKit
set_option maxRecDepth 100000

theorem bytes_ext {a b : ByteArray} (h : a.data.toList = b.data.toList) : a = b := by
  cases a; cases b
  congr 1
  exact Array.ext' h
theorem eqB_eq {a b : ByteArray} (h : eqB a b = true) : a = b := by
  have := of_decide_eq_true h
  rw [ByteArray.toList_eq, ByteArray.toList_eq] at this
  exact bytes_ext this
theorem eqB_ne {a b : ByteArray} (h : a.data.toList ≠ b.data.toList) : eqB a b = false := by
  refine decide_eq_false fun e => h ?_
  rwa [ByteArray.toList_eq, ByteArray.toList_eq] at e
theorem data_mk (l : List UInt8) : (ByteArray.mk l.toArray).data.toList = l := rfl
theorem map_bytes {ws : List ByteArray} {xs : List (List UInt8)} (h : ws.map (·.data.toList) = xs) : ws = xs.map fun l => ⟨l.toArray⟩ := by
  subst h
  rw [List.map_map]
  symm
  exact (List.map_congr_left (g := id) fun b _ => bytes_ext rfl).trans (List.map_id _)

theorem spB_cuC (s : ByteArray) (c : UInt8) : spB s (ByteArray.mk (Array.mk [c])) = (cuC c s.data.toList).map fun l => ⟨l.toArray⟩ := by
  refine map_bytes ?_
  rw [spB, Lib.splitB_data]
  exact splitK_cuC _ _ (Lib.count_one c _).symm

theorem cutP_inv (s : ByteArray) (c : UInt8) : ∀ i : Nat, i ≤ s.size → cuC c s.data.toList = (cutP s (c.toNat : Int) i).1.map (·.data.toList) ++ cuC c (s.data.toList.drop (cutP s (c.toNat : Int) i).2) ∧ ∀ k, (cutP s (c.toNat : Int) i).2 ≤ k → k < i → s.data.toList[k]? ≠ some c
  | 0, _ => ⟨by simp [cutP], fun k _ h => absurd h (Nat.not_lt_zero _)⟩
  | i + 1, h => by
    obtain ⟨h1, h2⟩ := cutP_inv s c i (by omega)
    have hle := (cutP_le s (c.toNat : Int) i).2
    have hsz : s.data.toList.length = s.size := by rw [Array.length_toList]; rfl
    have hb : byB s (i : Int) = ((s.data.toList[i]'(by omega)).toNat : Int) := by
      unfold byB
      rw [Int.toNat_natCast, getElem!_pos s.data i (by have : s.data.size = s.size := rfl; omega)]
      rfl
    have hg : s.data.toList[i]? = some (s.data.toList[i]'(by omega)) := List.getElem?_eq_getElem _
    have hne : ((i : Int) == (s.size : Int)) = false := by rw [beq_eq_false_iff_ne]; omega
    rw [cutP, stepCt, hne, Bool.false_or]
    cases hq : byB s (i : Int) == (c.toNat : Int) with
    | true =>
      have hc : s.data.toList[i]'(by omega) = c := by
        have := eq_of_beq hq
        rw [hb] at this
        exact UInt8.toNat_inj.1 (by omega)
      simp only [cond_true]
      refine ⟨?_, fun k hk hk' => by omega⟩
      rw [h1, List.map_append, List.append_assoc]
      congr 1
      have e : s.data.toList.drop (cutP s (c.toNat : Int) i).2 = (s.extract (cutP s (c.toNat : Int) i).2 i).data.toList ++ c :: s.data.toList.drop (i + 1) := by
        rw [Lib.extract_data]
        have e2 : (s.data.toList.drop (cutP s (c.toNat : Int) i).2).drop (i - (cutP s (c.toNat : Int) i).2) = c :: s.data.toList.drop (i + 1) := by
          rw [List.drop_drop, show (cutP s (c.toNat : Int) i).2 + (i - (cutP s (c.toNat : Int) i).2) = i by omega, List.drop_eq_getElem_cons (by omega), hc]
        rw [← e2, List.take_append_drop]
      rw [e, cuC_app]
      · rfl
      · rw [Lib.extract_data]
        intro hm
        obtain ⟨k, hk⟩ := List.mem_iff_getElem?.1 hm
        rw [List.getElem?_take] at hk
        split at hk
        · rename_i hlt
          rw [List.getElem?_drop] at hk
          exact h2 _ (by omega) (by omega) hk
        · cases hk
    | false =>
      simp only [cond_false]
      refine ⟨h1, fun k hk hk' => ?_⟩
      rcases Nat.lt_or_ge k i with hlt | hge
      · exact h2 k hk hlt
      · have : k = i := by omega
        subst this
        rw [hg]
        intro e
        simp only [Option.some.injEq] at e
        rw [hb, e] at hq
        simp at hq
theorem cutB_cuC (s : ByteArray) (c : UInt8) : cutB s (c.toNat : Int) = (cuC c s.data.toList).map fun l => ⟨l.toArray⟩ := by
  refine map_bytes ?_
  obtain ⟨h1, h2⟩ := cutP_inv s c s.size (Nat.le_refl _)
  have hle := (cutP_le s (c.toNat : Int) s.size).2
  have hsz : s.data.toList.length = s.size := by rw [Array.length_toList]; rfl
  have hfree : c ∉ s.data.toList.drop (cutP s (c.toNat : Int) s.size).2 := fun hm => by
    obtain ⟨k, hk⟩ := List.mem_iff_getElem?.1 hm
    rw [List.getElem?_drop] at hk
    have hlt := (List.getElem?_eq_some_iff.1 hk).1
    exact h2 _ (by omega) (by omega) hk
  rw [h1, cuC_free _ hfree]
  show List.map _ (cutP s (c.toNat : Int) (s.size + 1)).1 = _
  rw [cutP, stepCt, show ((s.size : Int) == (s.size : Int)) = true from beq_self_eq_true _, Bool.true_or]
  simp only [cond_true, List.map_append, List.map_cons, List.map_nil]
  rw [Lib.extract_data, List.take_of_length_le (by rw [List.length_drop]; omega)]

def valD (l : List UInt8) : Int := l.foldl (fun a b => 10 * a + ((b.toNat : Int) - 48)) 0
theorem valD_snoc (l : List UInt8) (b : UInt8) : valD (l ++ [b]) = 10 * valD l + ((b.toNat : Int) - 48) := by
  rw [valD, List.foldl_append]
  rfl
theorem valD_digits (u : Nat) : valD (Lib.decDigits u) = u := by
  induction u using Nat.strongRecOn with
  | _ u ih =>
    have e : ∀ k, k < 10 → ((UInt8.ofNat (48 + k)).toNat : Int) - 48 = k := fun k hk => by
      rw [UInt8.toNat_ofNat']
      omega
    rw [Lib.decDigits]
    split
    · rename_i h
      have := valD_snoc [] (UInt8.ofNat (48 + u))
      rw [List.nil_append] at this
      rw [this, e u h]
      show 10 * valD [] + (u : Int) = u
      rw [show valD [] = 0 from rfl]
      omega
    · rw [valD_snoc, ih (u / 10) (by omega), e _ (Nat.mod_lt _ (by omega))]
      omega
theorem byB_at {s : ByteArray} {i : Nat} (h : i < s.data.toList.length) : byB s (i : Int) = ((s.data.toList[i]).toNat : Int) := by
  unfold byB
  rw [Int.toNat_natCast, getElem!_pos s.data i (by simpa using h)]
  rfl
theorem numP_digits (l : List UInt8) (hl : ∀ b ∈ l, digU b) : ∀ i : Nat, i ≤ l.length → numP ⟨l.toArray⟩ i = (valD (l.take i), 1)
  | 0, _ => rfl
  | i + 1, h => by
    have hb := byB_at (s := ⟨l.toArray⟩) (i := i) (by simp; omega)
    simp only [] at hb
    have hd := hl l[i] (List.getElem_mem (by omega))
    unfold digU at hd
    rw [numP, numP_digits l hl i (by omega), List.take_add_one, List.getElem?_eq_getElem (by omega), show (some l[i]).toList = [l[i]] from rfl, valD_snoc, hb]
    have e1 : ((l[i].toNat : Int) == 45) = false := by rw [beq_eq_false_iff_ne]; omega
    rw [e1, Bool.and_false, decide_eq_true (by omega : (48 : Int) ≤ (l[i].toNat : Int)), decide_eq_true (by omega : (l[i].toNat : Int) ≤ 57)]
    rfl
theorem numP_minus (l : List UInt8) (hl : ∀ b ∈ l, digU b) : ∀ i : Nat, i ≤ l.length → numP ⟨(45 :: l).toArray⟩ (i + 1) = (valD (l.take i), -1)
  | 0, _ => by
    rw [numP]
    rfl
  | i + 1, h => by
    have hb := byB_at (s := ⟨(45 :: l).toArray⟩) (i := i + 1) (by simp; omega)
    simp only [List.getElem_cons_succ] at hb
    have hd := hl l[i] (List.getElem_mem (by omega))
    unfold digU at hd
    rw [numP, numP_minus l hl i (by omega), List.take_add_one, List.getElem?_eq_getElem (by omega), show (some l[i]).toList = [l[i]] from rfl, valD_snoc, hb]
    rw [show Nat.beq (i + 1) 0 = false from rfl, Bool.false_and, decide_eq_true (by omega : (48 : Int) ≤ (l[i].toNat : Int)), decide_eq_true (by omega : (l[i].toNat : Int) ≤ 57)]
    rfl
theorem digits_len {u : Nat} (h : u < 10 ^ 8) : (Lib.decDigits u).length ≤ 8 := by
  rw [Lib.decDigits_length]
  exact nDigits_le 7 u h
theorem numI_itoa (n : Int) (h1 : -100000000 < n) (h2 : n < 100000000) : numI ⟨(Lib.itoa n).toArray⟩ = n := by
  have hm : ∀ l : List UInt8, l.length ≤ 9 → numM ⟨l.toArray⟩ = l.length := fun l h => by
    rw [numM, mk_size]
    omega
  rw [Lib.itoa]
  split
  · rename_i hn
    have hl := digits_len (u := n.natAbs) (by omega)
    have := numP_minus (Lib.decDigits n.natAbs) (decDigits_dig _) (Lib.decDigits n.natAbs).length (Nat.le_refl _)
    rw [numI, hm _ (by simp only [List.length_cons]; omega), List.length_cons, this, List.take_length, valD_digits]
    show (-1 : Int) * (n.natAbs : Int) = n
    omega
  · rename_i hn
    have hl := digits_len (u := n.toNat) (by omega)
    have := numP_digits (Lib.decDigits n.toNat) (decDigits_dig _) (Lib.decDigits n.toNat).length (Nat.le_refl _)
    rw [numI, hm _ (by omega), this, List.take_length, valD_digits]
    show (1 : Int) * (n.toNat : Int) = n
    omega

def eight (r : Cy) : List Int := [r.c0, r.c1, r.c2, r.c3, r.c4, r.c5, r.c6, r.c7]
theorem wtxL_eq (w : Wh) : wtxL w = Lib.itoa w.s ++ 58 :: Lib.join ((eight w.r).map Lib.itoa) [44] := rfl
theorem free58 (n : Int) : (58 : UInt8) ∉ Lib.itoa n := itoa_free (by decide) n
theorem free44 (n : Int) : (44 : UInt8) ∉ Lib.itoa n := itoa_free (by decide) n
theorem free32 (n : Int) : (32 : UInt8) ∉ Lib.itoa n := itoa_free (by decide) n
theorem eight_cut (r : Cy) : cuC 44 (Lib.join ((eight r).map Lib.itoa) [44]) = (eight r).map Lib.itoa := by
  refine cuC_join _ _ fun y hy => ?_
  have hy' : y ∈ (eight r).map Lib.itoa := hy
  obtain ⟨n, _, rfl⟩ := List.mem_map.1 hy'
  exact free44 n
theorem join_mem {b : UInt8} {c : UInt8} : ∀ (xs : List (List UInt8)), b ∈ Lib.join xs [c] → b = c ∨ ∃ x ∈ xs, b ∈ x
  | [], h => by simp [Lib.join_nil] at h
  | x :: xs, h => by
    rw [Lib.join_cons, List.mem_append] at h
    rcases h with h | h
    · exact .inr ⟨x, List.mem_cons_self, h⟩
    · simp only [Lib.joinTail, List.mem_flatten, List.mem_map] at h
      obtain ⟨l, ⟨y, hy, rfl⟩, hb⟩ := h
      rcases List.mem_append.1 hb with hb | hb
      · exact .inl (by simpa using hb)
      · exact .inr ⟨y, List.mem_cons_of_mem _ hy, hb⟩
theorem join8_free {b : UInt8} (r : Cy) (h1 : b ≠ 44) (h2 : ∀ n, b ∉ Lib.itoa n) : b ∉ Lib.join ((eight r).map Lib.itoa) [44] := fun hb => by
  rcases join_mem _ hb with e | ⟨x, hx, hb⟩
  · exact h1 e
  · obtain ⟨n, _, rfl⟩ := List.mem_map.1 hx
    exact h2 n hb
theorem wtx_free (w : Wh) : (32 : UInt8) ∉ wtxL w := by
  rw [wtxL_eq, List.mem_append, List.mem_cons]
  rintro (h | h | h)
  · exact free32 _ h
  · cases h
  · exact join8_free w.r (by decide) free32 h
theorem itoa_at {n : Int} (h : -1000000 ≤ n ∧ n ≤ 1000000) : atE ⟨(Lib.itoa n).toArray⟩ = false ∧ atV ⟨(Lib.itoa n).toArray⟩ = n := by
  have := atoi_itoa n (by omega) (by omega)
  constructor
  · rw [atE, data_mk, this]
  · rw [atV, data_mk, this]

theorem wo_wtx {w : Wh} (h : okw w = true) : wo (wtx w) = (w, true) := by
  have h9 := okw_9 h
  simp only [List.forall_mem_cons, List.not_mem_nil, false_imp_iff, implies_true, and_true] at h9
  obtain ⟨b0, b1, b2, b3, b4, b5, b6, b7, b8⟩ := h9
  have hc : Lib.cut (wtx w).data.toList colon.data.toList = (Lib.itoa w.s, Lib.join ((eight w.r).map Lib.itoa) [44], true) := by
    show Lib.cut (wtxL w) [58] = _
    rw [wtxL_eq]
    exact cut_app (free58 _)
  have hA : cuA (wtx w) colon = ⟨(Lib.itoa w.s).toArray⟩ := by rw [cuA, hc]
  have hB : cuB (wtx w) colon = ⟨(Lib.join ((eight w.r).map Lib.itoa) [44]).toArray⟩ := by rw [cuB, hc]
  have hs : spB (cuB (wtx w) colon) comma = ((eight w.r).map Lib.itoa).map fun l => ⟨l.toArray⟩ := by
    rw [hB, show comma = ByteArray.mk (Array.mk [44]) from rfl, spB_cuC, data_mk, eight_cut]
  rw [wo, spLn, hs]
  simp only [List.length_map, eight, List.length_cons, List.length_nil, Nat.reduceAdd]
  rw [show Nat.beq 8 8 = true from rfl, cond_true, hA]
  have g : ∀ j, spG (cuB (wtx w) colon) comma j = (((eight w.r).map Lib.itoa).map fun l => (⟨l.toArray⟩ : ByteArray)).getD j ⟨#[]⟩ := fun j => by rw [spG, hs]
  have g0 : spG (cuB (wtx w) colon) comma 0 = ⟨(Lib.itoa w.r.c0).toArray⟩ := g 0
  have g1 : spG (cuB (wtx w) colon) comma 1 = ⟨(Lib.itoa w.r.c1).toArray⟩ := g 1
  have g2 : spG (cuB (wtx w) colon) comma 2 = ⟨(Lib.itoa w.r.c2).toArray⟩ := g 2
  have g3 : spG (cuB (wtx w) colon) comma 3 = ⟨(Lib.itoa w.r.c3).toArray⟩ := g 3
  have g4 : spG (cuB (wtx w) colon) comma 4 = ⟨(Lib.itoa w.r.c4).toArray⟩ := g 4
  have g5 : spG (cuB (wtx w) colon) comma 5 = ⟨(Lib.itoa w.r.c5).toArray⟩ := g 5
  have g6 : spG (cuB (wtx w) colon) comma 6 = ⟨(Lib.itoa w.r.c6).toArray⟩ := g 6
  have g7 : spG (cuB (wtx w) colon) comma 7 = ⟨(Lib.itoa w.r.c7).toArray⟩ := g 7
  rw [woR, g0, g1, g2, g3, g4, g5, g6, g7, (itoa_at b0).1, (itoa_at b1).1, (itoa_at b2).1, (itoa_at b3).1, (itoa_at b4).1, (itoa_at b5).1, (itoa_at b6).1, (itoa_at b7).1, (itoa_at b8).1,
    (itoa_at b0).2, (itoa_at b1).2, (itoa_at b2).2, (itoa_at b3).2, (itoa_at b4).2, (itoa_at b5).2, (itoa_at b6).2, (itoa_at b7).2, (itoa_at b8).2]
  rfl
theorem whS_wtx {w : Wh} (h : okw w = true) : okRS (wtx w) = true ∧ whS (wtx w) = w := by
  have h9 := okw_9 h
  simp only [List.forall_mem_cons, List.not_mem_nil, false_imp_iff, implies_true, and_true] at h9
  obtain ⟨b0, b1, b2, b3, b4, b5, b6, b7, b8⟩ := h9
  have h1 : cutB (wtx w) 58 = [⟨(Lib.itoa w.s).toArray⟩, ⟨(Lib.join ((eight w.r).map Lib.itoa) [44]).toArray⟩] := by
    rw [show (58 : Int) = (((58 : UInt8).toNat : Nat) : Int) from rfl, cutB_cuC]
    show List.map _ (cuC 58 (wtxL w)) = _
    rw [wtxL_eq, cuC_app _ _ (free58 _), cuC_free _ (join8_free w.r (by decide) free58)]
    rfl
  have e0 : cuG (wtx w) 58 0 = ⟨(Lib.itoa w.s).toArray⟩ := by rw [cuG, h1]; rfl
  have e1 : cuG (wtx w) 58 1 = ⟨(Lib.join ((eight w.r).map Lib.itoa) [44]).toArray⟩ := by rw [cuG, h1]; rfl
  have h2 : cutB (cuG (wtx w) 58 1) 44 = ((eight w.r).map Lib.itoa).map fun l => ⟨l.toArray⟩ := by
    rw [e1, show (44 : Int) = (((44 : UInt8).toNat : Nat) : Int) from rfl, cutB_cuC, data_mk, eight_cut]
  have g0 : cuG (cuG (wtx w) 58 1) 44 0 = ⟨(Lib.itoa w.r.c0).toArray⟩ := by rw [cuG, h2]; rfl
  have g1 : cuG (cuG (wtx w) 58 1) 44 1 = ⟨(Lib.itoa w.r.c1).toArray⟩ := by rw [cuG, h2]; rfl
  have g2 : cuG (cuG (wtx w) 58 1) 44 2 = ⟨(Lib.itoa w.r.c2).toArray⟩ := by rw [cuG, h2]; rfl
  have g3 : cuG (cuG (wtx w) 58 1) 44 3 = ⟨(Lib.itoa w.r.c3).toArray⟩ := by rw [cuG, h2]; rfl
  have g4 : cuG (cuG (wtx w) 58 1) 44 4 = ⟨(Lib.itoa w.r.c4).toArray⟩ := by rw [cuG, h2]; rfl
  have g5 : cuG (cuG (wtx w) 58 1) 44 5 = ⟨(Lib.itoa w.r.c5).toArray⟩ := by rw [cuG, h2]; rfl
  have g6 : cuG (cuG (wtx w) 58 1) 44 6 = ⟨(Lib.itoa w.r.c6).toArray⟩ := by rw [cuG, h2]; rfl
  have g7 : cuG (cuG (wtx w) 58 1) 44 7 = ⟨(Lib.itoa w.r.c7).toArray⟩ := by rw [cuG, h2]; rfl
  refine ⟨?_, ?_⟩
  · rw [okRS, cuN, cuN, h1, h2]
    rfl
  · rw [whS, e0, g0, g1, g2, g3, g4, g5, g6, g7, numI_itoa _ (by omega) (by omega), numI_itoa _ (by omega) (by omega), numI_itoa _ (by omega) (by omega), numI_itoa _ (by omega) (by omega), numI_itoa _ (by omega) (by omega), numI_itoa _ (by omega) (by omega), numI_itoa _ (by omega) (by omega), numI_itoa _ (by omega) (by omega), numI_itoa _ (by omega) (by omega)]

theorem text_cut {w : Wh} {L : List Wh} : cuC 32 (textB (w :: L)).data.toList = (w :: L).map wtxL := by
  show cuC 32 (textL (w :: L)) = _
  refine cuC_join _ _ fun y hy => ?_
  have hy' : y ∈ (w :: L).map wtxL := hy
  obtain ⟨w', _, rfl⟩ := List.mem_map.1 hy'
  exact wtx_free w'
theorem text_dash (w : Wh) (L : List Wh) : eqB (textB (w :: L)) dash = false := by
  refine eqB_ne fun e => ?_
  have h58 : (58 : UInt8) ∈ (textB (w :: L)).data.toList := by
    show (58 : UInt8) ∈ textL (w :: L)
    rw [textL, List.map_cons, Lib.join_cons, List.mem_append, wtxL_eq, List.mem_append]
    exact .inl (.inr List.mem_cons_self)
  rw [e] at h58
  simp [dash] at h58
theorem text_nil : textB [] = dash := rfl
theorem re_text {L : List Wh} (h : ∀ w ∈ L, okw w = true) : reL (textB L) = L ∧ (eqB (textB L) dash || reW (textB L)) = true := by
  cases L with
  | nil => exact ⟨by rw [reL, text_nil, eqB_self]; rfl, by rw [text_nil, eqB_self]; rfl⟩
  | cons w L =>
    have hs : spB (textB (w :: L)) spc = (w :: L).map wtx := by
      rw [show spc = ByteArray.mk (Array.mk [32]) from rfl, spB_cuC, text_cut, List.map_map]
      rfl
    constructor
    · rw [reL, text_dash, cond_false, hs, List.map_map]
      exact (List.map_congr_left (g := id) fun x hx => by simp only [Function.comp, id, wo_wtx (h x hx)]).trans (List.map_id _)
    · rw [reW, hs, List.all_map]
      have : ((w :: L).all ((fun w => (wo w).2) ∘ wtx)) = true := List.all_eq_true.2 fun x hx => by simp only [Function.comp, wo_wtx (h x hx)]
      rw [this, Bool.or_true]
theorem rs_text {L : List Wh} (h : ∀ w ∈ L, okw w = true) : eqB (textB L) dash = true ∧ L = [] ∨ eqB (textB L) dash = false ∧ reS (textB L) = L ∧ reG (textB L) = true := by
  cases L with
  | nil => exact .inl ⟨by rw [text_nil, eqB_self], rfl⟩
  | cons w L =>
    have hs : cutB (textB (w :: L)) 32 = (w :: L).map wtx := by
      rw [show (32 : Int) = (((32 : UInt8).toNat : Nat) : Int) from rfl, cutB_cuC, text_cut, List.map_map]
      rfl
    refine .inr ⟨text_dash w L, ?_, ?_⟩
    · rw [reS, hs, List.map_map]
      exact (List.map_congr_left (g := id) fun x hx => by simp only [Function.comp, id, (whS_wtx (h x hx)).2]).trans (List.map_id _)
    · rw [reG, hs, List.all_map]
      exact List.all_eq_true.2 fun x hx => by simp only [Function.comp, (whS_wtx (h x hx)).1]

theorem tidy_okw {T : List Wh} (h : isTidy T) : ∀ w ∈ T, okw w = true := okD_okw (tidy_okD h)
theorem re_iff (s : ByteArray) (T : List Wh) : (yRI s = true ∧ tRI s = T) ↔ (isTidy T ∧ textB T = s ∧ s.size ≤ 1500) := by
  constructor
  · rintro ⟨h1, rfl⟩
    have h1' := h1
    rw [yRI, Bool.and_eq_true, Bool.and_eq_true, reK, Bool.and_eq_true] at h1'
    obtain ⟨⟨⟨a, _⟩, _⟩, d⟩ := h1'
    have e : tRI s = tI (reL s) := by rw [tRI, h1]; rfl
    rw [e]
    exact ⟨tI_tidy _, eqB_eq d, of_decide_eq_true a⟩
  · rintro ⟨hT, rfl, hs⟩
    obtain ⟨e1, e2⟩ := re_text (tidy_okw hT)
    have hy : yRI (textB T) = true := by rw [yRI, reK, e1, e2, yI_self hT, tI_self hT, eqB_self, decide_eq_true hs]; rfl
    exact ⟨hy, by rw [tRI, hy, e1, tI_self hT]; rfl⟩
theorem rs_iff (s : ByteArray) (T : List Wh) : (yRS s = true ∧ tRS s = T) ↔ (isTidy T ∧ textB T = s ∧ s.size ≤ 1500) := by
  constructor
  · rintro ⟨h1, rfl⟩
    have h1' := h1
    rw [yRS, Bool.and_eq_true] at h1'
    obtain ⟨a, b⟩ := h1'
    cases hd : eqB s dash with
    | true =>
      have e : tRS s = [] := by rw [tRS, hd, Bool.not_true, Bool.and_false]; rfl
      rw [e]
      exact ⟨isTidy_nil, (eqB_eq hd).symm, of_decide_eq_true a⟩
    | false =>
      rw [hd, Bool.false_or, Bool.and_eq_true, Bool.and_eq_true] at b
      obtain ⟨⟨b1, b2⟩, b3⟩ := b
      have e : tRS s = reS s := by rw [tRS, h1, hd]; rfl
      have et : txV (reS s) = textB (tI (reS s)) := by rw [txV, b2]; rfl
      rw [et] at b3
      have hs := eqB_eq b3
      have hT := tI_tidy (reS s)
      rcases rs_text (tidy_okw hT) with ⟨k1, _⟩ | ⟨_, k2, _⟩
      · rw [hs, hd] at k1
        cases k1
      · rw [hs] at k2
        rw [e]
        generalize tI (reS s) = T at hs hT k2
        subst k2
        exact ⟨hT, hs, of_decide_eq_true a⟩
  · rintro ⟨hT, rfl, hs⟩
    rcases rs_text (tidy_okw hT) with ⟨k1, rfl⟩ | ⟨k1, k2, k3⟩
    · have hy : yRS (textB []) = true := by rw [yRS, k1, decide_eq_true hs]; rfl
      exact ⟨hy, by rw [tRS, k1, Bool.not_true, Bool.and_false]; rfl⟩
    · have ht : txV T = textB T := by rw [txV, yI_self hT, cond_true, tI_self hT]
      have hy : yRS (textB T) = true := by rw [yRS, k1, k2, k3, yI_self hT, ht, eqB_self, decide_eq_true hs]; rfl
      exact ⟨hy, by rw [tRS, hy, k1, k2]; rfl⟩
theorem re_rs (s : ByteArray) : yRS s = yRI s ∧ tRS s = tRI s := by
  cases h : yRI s with
  | true =>
    obtain ⟨h1, h2⟩ := (rs_iff s (tRI s)).2 ((re_iff s (tRI s)).1 ⟨h, rfl⟩)
    exact ⟨h1, h2⟩
  | false =>
    have hs : yRS s = false := by
      cases h2 : yRS s with
      | false => rfl
      | true =>
        have := ((re_iff s (tRS s)).2 ((rs_iff s (tRS s)).1 ⟨h2, rfl⟩)).1
        rw [h] at this
        cases this
    exact ⟨hs, by rw [tRS, hs, tRI, h]; rfl⟩
end Go.Proofs.YtddhmidegldhdaaGreatDoor

/- Scripts: plain. Texts cut at lines and words; numerals. No program, no conditions. -/
namespace Go.Proofs.YtddhmidegldhdaaGreatDoor
open Go.RowKit
set_option maxRecDepth 100000

theorem decDigits_len : ∀ (k u : Nat), u < 10 ^ k → 1 ≤ k → (Lib.decDigits u).length ≤ k
  | 0, _, _, h => absurd h (by omega)
  | 1, u, h, _ => by
    rw [Lib.decDigits, dif_pos (by omega)]
    exact Nat.le_refl _
  | k + 2, u, h, _ => by
    rw [Lib.decDigits]
    split
    · show 1 ≤ k + 2
      omega
    · rw [List.length_append]
      have := decDigits_len (k + 1) (u / 10) (by rw [Nat.pow_succ] at h; omega) (by omega)
      show _ + 1 ≤ _
      omega
def showL : List UInt8 := [115, 104, 111, 119]
theorem nl_free (n : Int) : (10 : UInt8) ∉ Lib.itoa n := itoa_free ⟨by decide, .inl (by decide)⟩ n
theorem show_cut : Lib.cut showL [32] = (showL, [], false) := cut_free (by decide)

end Go.Proofs.YtddhmidegldhdaaGreatDoor

/- A number of a script, read by the program: told, or a panic. Conditions: the text's length. -/
namespace Go.Proofs.YtddhmidegldhdaaGreatDoor
open Go.RowKit Go.Shelf
set_option maxRecDepth 100000

end Go.Proofs.YtddhmidegldhdaaGreatDoor

/- Numbers of a rest, read by the program: so many, or a panic. Conditions: the text's length; at most three. -/
namespace Go.Proofs.YtddhmidegldhdaaGreatDoor
open Go.RowKit Go.Shelf
set_option maxRecDepth 100000

theorem fr_grown {w w' : World} {row : Option Nat} (h : w.grownBy w' row) {M : Nat → Prop} (hM : ∀ k, row = some k → M k) : Fr M w w' :=
  ⟨h.os, h.tape, h.output, h.size, fun k hk hm => h.block k hk fun e => hm (hM k e.symm)⟩
theorem nw_trans {a b c : World} (h : Fr (nwM a) a b) (k : Fr (nwM b) b c) : Fr (nwM a) a c := h.trans (k.mono fun _ _ hi => Nat.le_trans h.size hi)
theorem nw_grown {a b : World} (h : Fr (nwM a) a b) : a.grownBy b none := ⟨h.os, h.tape, h.output, h.size, fun k hk _ => h.block k hk (Nat.not_le.2 hk)⟩
theorem cuC_sizes {c : UInt8} : ∀ (l : List UInt8), ∀ x ∈ cuC c l, x.length ≤ l.length := by
  intro l
  induction l with
  | nil => intro x hx; simp [cuC] at hx; subst hx; exact Nat.le_refl _
  | cons b l ih =>
    intro x hx
    unfold cuC at hx
    rw [List.length_cons]
    split at hx
    · rcases List.mem_cons.1 hx with rfl | hx
      · exact Nat.zero_le _
      · have := ih x hx
        omega
    · split at hx
      · rename_i y ys e
        rcases List.mem_cons.1 hx with rfl | hx
        · have := ih y (by rw [e]; exact List.mem_cons_self)
          rw [List.length_cons]
          omega
        · have := ih x (by rw [e]; exact List.mem_cons_of_mem _ hx)
          omega
      · rw [List.mem_singleton] at hx
        subst hx
        simp
end Go.Proofs.YtddhmidegldhdaaGreatDoor

/- Numbers told with spaces between, by the program. Conditions: ints, at most sixteen. -/
namespace Go.Proofs.YtddhmidegldhdaaGreatDoor
open Go.RowKit Go.Shelf
set_option maxRecDepth 100000

def toldL (ns : List Int) : List UInt8 := Lib.join (ns.map Lib.itoa) [32]
theorem info_str : (Tryz.prog.info? 9).map (fun i => (i.zero, i.size, i.bytes)) = some (some (.string ByteArray.empty), 1, 16) := by kernel_rfl
theorem calls_itoa (n : Int) (w : World) (ht : TabOk (nwM w) w) (h1 : -9223372036854775808 ≤ n) (h2 : n ≤ 9223372036854775807) : Calls Tryz.prog 48 #[i64 n] w (VPost w (.string (decB n))) :=
  v_v ok_itoa [i64 n] (δ := { val := .v (.string (decB n)), obl := [decide (-9223372036854775808 ≤ n), decide (n ≤ 9223372036854775807)] }) rfl rfl (by simp only [ob_cons, ob_nil, and_true, decide_eq_true_eq]; exact ⟨h1, h2⟩) rfl rfl ht
theorem itoa_short (n : Int) (h1 : -9223372036854775808 ≤ n) (h2 : n ≤ 9223372036854775807) : (Lib.itoa n).length ≤ 20 := by
  unfold Lib.itoa
  split
  · rw [List.length_cons]
    have := decDigits_len 19 n.natAbs (by omega) (by omega)
    omega
  · have := decDigits_len 19 n.toNat (by omega) (by omega)
    omega
theorem tail_len (k : Nat) : ∀ (xs : List (List UInt8)), (∀ x ∈ xs, x.length ≤ k) → (Lib.joinTail [32] xs).length ≤ xs.length * (k + 1)
  | [], _ => by simp [Lib.joinTail]
  | x :: r, h => by
    have h1 := h x List.mem_cons_self
    have h2 := tail_len k r fun z hz => h z (List.mem_cons_of_mem _ hz)
    unfold Lib.joinTail at h2 ⊢
    simp only [List.map_cons, List.flatten_cons, List.length_append, List.length_cons, List.length_nil, Nat.add_mul]
    omega
theorem join_len (k : Nat) (xs : List (List UInt8)) (h : ∀ x ∈ xs, x.length ≤ k) : (Lib.join xs [32]).length ≤ xs.length * (k + 1) := by
  cases xs with
  | nil => simp [Lib.join_nil]
  | cons x r =>
    have h1 := h x List.mem_cons_self
    have h2 := tail_len k r fun z hz => h z (List.mem_cons_of_mem _ hz)
    rw [Lib.join_cons, List.length_append, List.length_cons, Nat.add_mul]
    omega
set_option maxHeartbeats 4000000 in
theorem calls_told (ns : List Int) (b o c : Nat) (w : World) (ht : TabOk (nwM w) w) (hl : ns.length ≤ 16) (_ : ns.length ≤ c) (hb : b < w.heap.size) (hin : ∀ n ∈ ns, -9223372036854775808 ≤ n ∧ n ≤ 9223372036854775807) (hc : ∀ j (hj : j < ns.length), w.cell? ⟨b, o + j, none⟩ = some (i64 ns[j])) :
    Calls Tryz.prog 158 #[.slice (some ⟨b, o, none⟩) ns.length c] w (VPost w (.string ⟨(toldL ns).toArray⟩)) := by
  have mixed := mixed
  have t3 : Tryz.prog.underlying 3 = some (.int .i64) := by kernel_rfl
  have t187 : Tryz.prog.underlying 187 = some (.slice 3) := by kernel_rfl
  have t71 : Tryz.prog.underlying 71 = some (.slice 9) := by kernel_rfl
  obtain ⟨i0, hi, hz0, hz1, hz2⟩ := info_parts info_str
  go_enter Tryz.func158, Tryz.ntmps158
  go_wp2_with (at_make; refine wpList_make_own _ rfl _ _ 71 rfl w.heap.size 9 i0 (.string ByteArray.empty) 1 t71 hi hz0 hz1 .i64 .i64 ns.length ns.length rfl rfl rfl (by rw [hz2]; omega) (by unfold maxLen; omega) (Nat.le_refl _) ?_)
  intro w3 hown hgr
  have f3 : Fr (nwM w) w w3 := fr_grown hgr fun k e => by cases e
  obtain ⟨G, hG⟩ : ∃ G, G = w.heap.size := ⟨_, rfl⟩
  rw [← hG] at hown ⊢
  clear hgr
  go_wp2
  go_loopw [3, 11] (fun v i wr => ∃ k : Nat, k ≤ ns.length ∧ i = .int .i64 k ∧ v = .slice (some ⟨G, 0, none⟩) k ns.length ∧ wr.ownsRow G 9 1 (.slice (some ⟨G, 0, none⟩) k ns.length) k ((ns.map fun x => Value.string (decB x)).take k) ∧ Fr (nwM w) w wr) (fun _ i _ => ns.length - (intOf i).toNat)
  case atStart => exact ⟨0, Nat.zero_le _, rfl, rfl, hown, f3⟩
  case round =>
    obtain ⟨k, hk, rfl, rfl, hown, fr⟩ := hrel
    by_cases hlt : k < ns.length
    · have hcw : wr.cell? ⟨b, o + k, none⟩ = some (i64 ns[k]) := (World.cell?_of_block (a := ⟨b, o + k, none⟩) (fr.block b hb (Nat.not_le.2 hb))).trans (hc k hlt)
      have hnk := hin _ (List.getElem_mem hlt)
      have hit := calls_itoa ns[k] wr ((ht.fr fr).mono fun i _ hi => Nat.le_trans fr.size hi) hnk.1 hnk.2
      have htk : ((ns.map fun x => Value.string (decB x)).take k) ++ [.string (decB ns[k])] = (ns.map fun x => Value.string (decB x)).take (k + 1) := by
        rw [List.take_succ_eq_append_getElem (by rw [List.length_map]; exact hlt), List.getElem_map]
      have hln2 : (ns.length : Int) < 9223372036854775807 := by omega
      have hlt2 : (k : Int) < ns.length := by omega
      clear ht hin hc f3 hnk
      generalize ns[k] = x at *
      have next : ∀ (w4 w5 : World), Fr (nwM wr) wr w4 → (w4.alloc (.cells #[.string (decB x)] 9)).grownBy w5 (some G) → Fr (nwM w) w w5 := fun w4 w5 h4 h5 =>
        (nw_trans fr h4).trans ((fr_grown (World.grownBy_alloc w4 (.cells #[.string (decB x)] 9) none) (M := nwM w) fun k e => by cases e).trans (fr_grown h5 fun k e => by cases e; exact Nat.le_of_eq hG.symm))
      clear hG
      go_wp2_with (first | (go_at_call 48; refine hit.mono ?_; rintro e w4 ⟨he, f4⟩; obtain rfl := he) | (at_builtin; refine wpList_append_fits _ rfl _ _ 71 rfl G 9 i0 1 t71 hi hz1 G k ns.length _ rfl ((hown.kept (nw_grown ‹_›) (by simp [Value.ownBlock])).alloc _) ⟨_, 0, none⟩ 1 1 [.string (decB x)] rfl rfl ?c1 ?c2 ?c3 ?_))
      case c1 =>
        intro j u hj
        match j, hj with
        | 0, hj => simp at hj; subst hj; simp [Addr.add]
      case c2 => intro u hu; simp at hu; subst hu; rfl
      case c3 => omega
      intro w5 hown5 hgr5
      have n1 := next _ _ ‹_› hgr5
      clear hit hgr5 next hown fr
      go_wp2
      go_roundw
      case rel => exact ⟨k + 1, by omega, by simp, rfl, by first | exact hown5 | exact htk ▸ hown5, n1⟩
      case measure => simp [intOf]; omega
    · have hkn : k = ns.length := by omega
      subst hkn
      have htm : (ns.map fun x => Value.string (decB x)).take ns.length = ns.map fun x => Value.string (decB x) := List.take_of_length_le (by rw [List.length_map]; exact Nat.le_refl _)
      rw [htm] at hown
      have hGl : G < wr.heap.size := (hown.lt G rfl).2
      have hjl : (Lib.join ((ns.map decB).map (·.data.toList)) (ByteArray.mk #[32]).data.toList).length ≤ 140737488355328 := by
        have := join_len 20 ((ns.map decB).map (·.data.toList)) fun x hx => by
          obtain ⟨y, hy, rfl⟩ := List.mem_map.1 hx
          obtain ⟨z, hz, rfl⟩ := List.mem_map.1 hy
          exact itoa_short z (hin z hz).1 (hin z hz).2
        simp only [List.length_map] at this
        have e : (ByteArray.mk #[32]).data.toList = [32] := rfl
        rw [e]
        omega
      have hjo := Any.strings_Join Tryz.lays156 Tryz.extra156 G 0 ns.length (ns.map decB) ⟨#[32]⟩ wr (fun j x hx => by
        rw [Nat.zero_add, hown.cellAt j (by have := (List.getElem?_eq_some_iff.1 hx).1; rw [List.length_map] at this; omega)]
        rw [List.getElem?_map] at hx ⊢
        cases h : ns[j]? with
        | none => rw [h] at hx; cases hx
        | some z => rw [h] at hx; simp only [Option.map_some, Option.some.injEq] at hx ⊢; rw [hx]) hGl (by rw [List.length_map]; omega) (by rw [List.length_map]; exact Nat.le_refl _) hjl
      rw [List.length_map] at hjo
      have hte : Lib.join ((ns.map decB).map (·.data.toList)) (ByteArray.mk #[32]).data.toList = toldL ns := by
        rw [List.map_map]
        rfl
      rw [hte] at hjo
      clear ht hin hc f3 htm hjl hte hown hG hGl hk hlt
      generalize toldL ns = R at *
      generalize ns.length = N at *
      go_wp2_with (go_at_call 86; refine hjo.mono ?_; rintro e w6 ⟨rfl, hb6⟩)
      go_ret
      exact ⟨rfl, nw_trans fr ((Below.fr hb6).mono fun _ _ h => h.elim)⟩
end Go.Proofs.YtddhmidegldhdaaGreatDoor

/- The desk: what it holds; become, read. Conditions: tidy lists. -/
namespace Go.Proofs.YtddhmidegldhdaaGreatDoor
open Go.RowKit Go.Shelf
set_option maxRecDepth 100000

abbrev okB2 : ByteArray := ⟨#[111, 107]⟩
def Desk (D : Nat) (L : List Wh) (w : World) : Prop := ∃ p n c, w.heap[D]? = some (.cells #[.slice p n c] 67 (0, 0)) ∧ ReadsW w (.slice p n c) L
abbrev nwD (w : World) (D : Nat) : Nat → Prop := fun k => w.heap.size ≤ k ∨ k = D
def CPost (D : Nat) (L : List Wh) (r : Option (List Wh × List UInt8)) (w : World) (e : Ending) (w' : World) : Prop :=
  Fr (nwD w D) w w' ∧ match r with
    | some x => e = .returned (.string ⟨x.2.toArray⟩) ∧ Desk D x.1 w' ∧ isTidy x.1
    | none => e = diesE ∧ Desk D L w'
theorem Desk.ne {D : Nat} {L : List Wh} {w : World} (h : Desk D L w) : ¬ Wrow w D := fun ⟨l, fz, hl⟩ => by
  obtain ⟨p, n, c, h, _⟩ := h
  rw [h] at hl
  simp only [Option.some.injEq, Obj.cells.injEq] at hl
  exact absurd hl.2.1 (by decide)
theorem Desk.lt {D : Nat} {L : List Wh} {w : World} (h : Desk D L w) : D < w.heap.size := by
  obtain ⟨p, n, c, h, _⟩ := h
  exact (Array.getElem?_eq_some_iff.1 h).1
theorem Desk.fr {D : Nat} {L : List Wh} {w w' : World} (h : Desk D L w) (f : Fr (nwM w) w w') : Desk D L w' := by
  have hlt := h.lt
  obtain ⟨p, n, c, h, hr⟩ := h
  exact ⟨p, n, c, (f.block D hlt (Nat.not_le.2 hlt)).trans h, hr.below f⟩
theorem TabOk.nw {w : World} {D : Nat} (h : TabOk (nwD w D) w) : TabOk (nwM w) w := h.mono fun _ _ hk => .inl hk
theorem TabOk.nwf {w w' : World} (h : TabOk (nwM w) w) (f : Fr (nwM w) w w') : TabOk (nwM w') w' := (h.fr f).mono fun _ _ hi => Nat.le_trans f.size hi
theorem TabOk.nwg {w w' : World} {D : Nat} (h : TabOk (nwD w D) w) (f : Fr (nwD w D) w w') : TabOk (nwD w' D) w' := (h.fr f).mono fun _ _ hi => hi.elim (fun x => .inl (Nat.le_trans f.size x)) .inr
theorem Fr.nwd {w w' : World} {D : Nat} (f : Fr (nwM w) w w') : Fr (nwD w D) w w' := f.mono fun _ _ h => .inl h
theorem Desk.set {D : Nat} {L T : List Wh} {w : World} {p : Option Addr} {n c : Nat} (h : Desk D L w) (hs : ReadsW w (.slice p n c) T) : Desk D T (w.setCell ⟨D, 0, none⟩ (.slice p n c)) ∧ Fr (nwD w D) w (w.setCell ⟨D, 0, none⟩ (.slice p n c)) := by
  have hf : Fr (fun k => k = D) w (w.setCell ⟨D, 0, none⟩ (.slice p n c)) := ⟨rfl, rfl, rfl, by simp [World.setCell], fun k _ hk => Below.heap_setCell _ _ _ _ (fun e => hk e)⟩
  have hne := h.ne
  obtain ⟨p0, n0, c0, h, _⟩ := h
  refine ⟨⟨p, n, c, by simp [World.setCell, Array.getElem?_modify, h], hs.fr (M := fun k => k = D) (fun k _ e hw => hne (e ▸ hw)) hf⟩, hf.mono fun _ _ e => .inr e⟩
theorem ReadsW.slice {w : World} {v : Value} {L : List Wh} (h : ReadsW w v L) : ∃ p n c, v = .slice p n c := by
  obtain ⟨ν, _, h, _⟩ := h
  simp only [VR] at h
  obtain ⟨p, c, rfl, _⟩ := h
  exact ⟨p, _, c, rfl⟩
set_option maxHeartbeats 1000000 in
theorem become_ok (D : Nat) (p : Option Addr) (n c : Nat) (v0 : Value) (w : World) (hD : w.heap[D]? = some (.cells #[v0] 67 (0, 0))) : Calls Tryz.prog 146 #[.pointer (some ⟨D, 0, none⟩), .slice p n c, .bool true] w fun e w' => e = .returned (.string okB2) ∧ w' = w.setCell ⟨D, 0, none⟩ (.slice p n c) := by
  have mixed := mixed
  have c0 : w.cell? ⟨D, 0, none⟩ = some v0 := by rw [cell_of_row w D 0 #[v0] _ (0, 0) hD]; rfl
  have f0 : w.frozen? ⟨D, 0, none⟩ = false := frozen_of_row w D 0 #[v0] _ hD
  clear hD
  go_enter Tryz.func146, Tryz.ntmps146
  go_wp2_with (go_at_call 157; refine (must_ok _).mono ?_; rintro e w2 ⟨rfl, rfl⟩)
  go_ret
  exact ⟨rfl, rfl⟩
set_option maxHeartbeats 1000000 in
theorem become_no (D : Nat) (v : Value) (w : World) : Calls Tryz.prog 146 #[.pointer (some ⟨D, 0, none⟩), v, .bool false] w fun e w' => e = diesE ∧ w' = w := by
  have mixed := mixed
  go_enter Tryz.func146, Tryz.ntmps146
  go_wp2_with (go_at_call 157; refine (must_no _).mono ?_; rintro e w2 ⟨rfl, rfl⟩)
  exact ⟨rfl, rfl, rfl⟩
theorem calls_become {D : Nat} {L T : List Wh} {b : Bool} {s : Value} {w : World} (hd : Desk D L w) (hs : b = true → ReadsW w s T) (hT : b = true → isTidy T) : Calls Tryz.prog 146 #[.pointer (some ⟨D, 0, none⟩), s, .bool b] w (CPost D L (bif b then some (T, [111, 107]) else none) w) := by
  cases b with
  | false =>
    refine (become_no D s w).mono ?_
    rintro e w' ⟨rfl, rfl⟩
    exact ⟨Fr.refl _ _, rfl, hd⟩
  | true =>
    have hs := hs rfl
    obtain ⟨p, n, c, rfl⟩ := hs.slice
    obtain ⟨p0, n0, c0, h0, _⟩ := id hd
    refine (become_ok D p n c _ w h0).mono ?_
    rintro e w' ⟨rfl, rfl⟩
    obtain ⟨h1, h2⟩ := hd.set hs
    exact ⟨h2, rfl, h1, hT rfl⟩
theorem calls_dread (s : ByteArray) {w : World} (ht : TabOk (nwM w) w) : Calls Tryz.prog 22 #[.string s] w (UPost w (yRI s) (tRI s)) := by
  cases hy : yRI s with
  | false =>
    have e : specU [.val] (UreO yRI tRI) [.v (.string s)] [] 0 = some (dU 0 [] (yRI s) (tRI s) []) := rfl
    rw [hy] at e
    refine (down_v ok_Ure [.string s] e rfl rfl rfl ht).mono ?_
    rintro e w' ⟨x, ν', rfl, hx, _, _, hr⟩
    exact upostN hx hr
  | true =>
    have ht2 : tRI s = tI (reL s) := by unfold tRI; rw [hy]; rfl
    have e : specR [.val] FreY [.v (.string s)] [] 0 = some { val := .tup [.sl 0 9 0 0 (tI (reL s)).length (some (tI (reL s)).length), .v (.bool true)], rd := [], put := [], new := newY (tI (reL s)), obl := [yRI s] } := rfl
    rw [ht2]
    refine (down_v ok_reY [.string s] e (by simp only [ob_cons, ob_nil, and_true]; exact hy) rfl rfl ht).mono ?_
    rintro e w' ⟨x, ν', rfl, hx, hn, hf, hr⟩
    exact upost hx (hn 0 _ rfl) (fun b hb => hf 0 b (Nat.lt_succ_self 0) hb) hr
set_option maxHeartbeats 1000000 in
theorem calls_read (s : ByteArray) {w : World} (ht : TabOk (nwM w) w) : Calls Tryz.prog 147 #[.string s] w fun e w' => (bif yRI s then ∃ v, e = .returned v ∧ ReadsW w' v (tRI s) else e = diesE) ∧ Fr (nwM w) w w' := by
  have mixed := mixed
  have hre := calls_dread s ht
  cases hy : yRI s with
  | false =>
    rw [hy] at hre
    clear ht hy
    go_enter Tryz.func147, Tryz.ntmps147
    go_wp2_with (first | (go_at_call 22; refine hre.mono ?_; rintro e w1 ⟨v, rfl, h1, h2⟩) | (go_at_call 157; refine (must_no _).mono ?_; rintro e w2 ⟨rfl, rfl⟩))
    exact ⟨rfl, rfl, h2⟩
  | true =>
    rw [hy] at hre
    clear ht hy
    go_enter Tryz.func147, Tryz.ntmps147
    go_wp2_with (first | (go_at_call 22; refine hre.mono ?_; rintro e w1 ⟨v, rfl, h1, h2⟩) | (go_at_call 157; refine (must_ok _).mono ?_; rintro e w2 ⟨rfl, rfl⟩))
    go_ret
    exact ⟨⟨_, rfl, h1 trivial⟩, h2⟩
end Go.Proofs.YtddhmidegldhdaaGreatDoor

/- The desk in the machine: must, numbers, told, become as callees that do not fail; a command by the machine; a command that dies. Conditions: those of the table of callees. -/
namespace Go.Proofs.YtddhmidegldhdaaGreatDoor
open Go.RowKit
set_option maxRecDepth 100000

end Go.Proofs.YtddhmidegldhdaaGreatDoor

/- The desk: a command that dies in a region that draws its order. Conditions: those of the table of callees. -/
namespace Go.Proofs.YtddhmidegldhdaaGreatDoor
open Go.RowKit
set_option maxRecDepth 100000

structure Dies (Γ : Gam) (M : Nat → Prop) (w : World) (ν : Nu) (T : List AV) (H : List AB) (ops : Array Oper) (R : Ending → World → Prop) : Prop where
  mk' : ∃ (k : Nat) (QQ : Ex → List AV → List AB → Prop) (o : Oper) (g : FuncId) (args : Array Operand) (ts : Array TypeId),
    (execOps Tryz.prog Γ ops.toList (ops.toList.take k) T H [] fun T' H' tr => cond (drawOk ops.toList tr.reverse && dieOk k ops.toList) (.out .normal T' H') .err).ok QQ ∧ ops.toList[k]? = some o ∧ o.guard = none ∧ o.op = .call ⟨.value (.func g), args, ts⟩ ∧ (∀ args w, (callFunc g args).run Tryz.prog w = .ok (.enter g args) w) ∧ argsB k ops.toList args.toList = true ∧
    ∀ T' H', QQ .normal T' H' → ∀ w' ν' (vals : List Value), VRs ν' (args.toList.map (evA T')) vals → (lateB k ops.toList = true → RH M ν' (fun b => H'.getD b .gone) w' ∧ Le ν ν') → Fr M w w' → TabOk M w' → Calls Tryz.prog g vals.toArray w' fun e w'' => ∃ chain, e = .panicked chain ∧ R (.panicked chain) w''
end Go.Proofs.YtddhmidegldhdaaGreatDoor

/- errors.As at a target **misfit: closed facts on internal/reflectlite; errors.as at a misfit and at a list of errors whose first is a misfit. Conditions: errors.errorType is laid. -/
namespace Go.Proofs.YtddhmidegldhdaaGreatDoor
open Go.RowKit Go.Extern.Stop Go.Stop Go.Extern
set_option maxRecDepth 100000

end Go.Proofs.YtddhmidegldhdaaGreatDoor

/- errors.as and errors.As at the target of 'fits': nil, a misfit, a list of errors whose first is a misfit. Conditions: errors.errorType is laid. -/
namespace Go.Proofs.YtddhmidegldhdaaGreatDoor
open Go.RowKit Go.Extern.Stop Go.Stop Go.Extern
set_option maxRecDepth 100000

abbrev hM : Value := .iface 221 (.agg #[.pointer (some ⟨10, 104, none⟩)])
end Go.Proofs.YtddhmidegldhdaaGreatDoor

/- errors.as at a list of errors whose first is a misfit; errors.As at both; fits. Conditions: errors.errorType is laid. -/
namespace Go.Proofs.YtddhmidegldhdaaGreatDoor
open Go.RowKit Go.Extern.Stop Go.Stop Go.Extern
set_option maxRecDepth 100000

end Go.Proofs.YtddhmidegldhdaaGreatDoor

/- errors.As at a misfit and at a list of errors whose first is a misfit; fits. Conditions: errors.errorType is laid. -/
namespace Go.Proofs.YtddhmidegldhdaaGreatDoor
open Go.RowKit Go.Extern.Stop Go.Stop Go.Extern
set_option maxRecDepth 100000

abbrev eT : Value := .iface 221 (.agg #[.pointer (some ⟨10, 49, none⟩)])
def isMis (v : Value) (w : World) : Prop := (∃ e, v = .iface 104 (.pointer (some e))) ∨ ∃ j b e n c, v = .iface 157 (.pointer (some j)) ∧ 0 < n ∧ w.cell? j = some (.slice (some b) n c) ∧ w.cell? b = some (.iface 104 (.pointer (some e)))
theorem isMis.keep {v : Value} {w w' : World} (h : isMis v w) (hk : ∀ a x, w.cell? a = some x → w'.cell? a = some x) : isMis v w' := by
  rcases h with h | ⟨j, b, e, n, c, h1, h2, h3, h4⟩
  · exact .inl h
  · exact .inr ⟨j, b, e, n, c, h1, h2, hk _ _ h3, hk _ _ h4⟩
end Go.Proofs.YtddhmidegldhdaaGreatDoor

/- gear, errors.Join at two errors, meshes. No conditions. -/
namespace Go.Proofs.YtddhmidegldhdaaGreatDoor
open Go.RowKit Go.Extern.Stop Go.Stop Go.Extern
set_option maxRecDepth 100000

end Go.Proofs.YtddhmidegldhdaaGreatDoor

/- errors.Join at two errors of which one is a misfit. No conditions. -/
namespace Go.Proofs.YtddhmidegldhdaaGreatDoor
open Go.RowKit Go.Extern.Stop Go.Stop Go.Extern
set_option maxRecDepth 100000

end Go.Proofs.YtddhmidegldhdaaGreatDoor

/- errors.Join: the other two cases; meshes where teeth do not fit. No conditions. -/
namespace Go.Proofs.YtddhmidegldhdaaGreatDoor
open Go.RowKit Go.Extern.Stop Go.Stop Go.Extern
set_option maxRecDepth 100000

end Go.Proofs.YtddhmidegldhdaaGreatDoor

/- meshes where teeth do not fit. No conditions. -/
namespace Go.Proofs.YtddhmidegldhdaaGreatDoor
open Go.RowKit Go.Extern.Stop Go.Stop Go.Extern
set_option maxRecDepth 100000

end Go.Proofs.YtddhmidegldhdaaGreatDoor

/- l1Gcd, the reference's: its word. Conditions: numbers of 64 bits. -/
namespace Go.Proofs.YtddhmidegldhdaaGreatDoor
open Go.RowKit
set_option maxRecDepth 100000

abbrev lvGc : Ex → List Nat := lv3 [0, 1] [0] [4]
theorem rndGc (a b : Int) : execC Tryz.prog g0 100 noLam (loopAt 0 Tryz.f40) (mkT 0 17 ((lvGc .normal).zip [.v (i64 a), .v (i64 b)])) [] (leafV 17 lvGc 0)
    = bif b != (0 : Int) then needs [!decide (b = (0 : Int))] (Res.out .normal [AV.v (.int .i64 b), AV.v (.int .i64 (Int.tmod a b))] []) else Res.out (Ex.exit (0 : Nat)) [AV.v (.int .i64 a)] [] := by kernel_rfl

noncomputable abbrev lamGc (a b c : Int) : Nat → Option Sum := oneL 0 (atS 17 (lvGc .normal) 0 [.v (i64 a), .v (i64 b)] [] (fun K => K .normal (mkT 0 17 [(0, .v (i64 c))]) []))
theorem treeGc (a b c : Int) : execF Tryz.prog g0 (lamGc a b c) 100 Tryz.f40 [.v (i64 a), .v (i64 b)] [] (packK 0)
    = needs [chk ([AV.v (.int .i64 a), AV.v (.int .i64 b)] = [AV.v (.int .i64 a), AV.v (.int .i64 b)] ∧ Hsim [] [])] (Res.out .ret [AV.v (.int .i64 (if IntKind.wrap .i64 ((0 : Int) - c) > c then IntKind.wrap .i64 ((0 : Int) - c) else c))] []) := by kernel_rfl

def gcdE : Nat → Int → Int → Int
  | 0, a, _ => a
  | n + 1, a, b => if b = 0 then a else gcdE n b (a.tmod b)

theorem sumGc (a b : Int) : SumOk Tryz.prog 0 (.block 0 (.loop (loopAt 0 Tryz.f40))) (atS 17 (lvGc .normal) 0 [.v (i64 a), .v (i64 b)] [] (fun K => K .normal (mkT 0 17 [(0, .v (i64 (gcdE (b.natAbs + 1) a b)))]) [])) := by
  refine loop_at g0_ok (n := 100) (m := 0) (lv := lvGc) (σ := Nat × Int × Int) (fun s => [.v (i64 s.2.1), .v (i64 s.2.2)]) (fun _ => []) (fun s => s.2.2.natAbs < s.1 ∧ gcdE s.1 s.2.1 s.2.2 = gcdE (b.natAbs + 1) a b) (fun s => s.1) (b.natAbs + 1, a, b) (fun _ => noLam) (lv3_ris rfl rfl rfl) (Nat.le_refl _) ⟨Nat.lt_succ_self _, rfl⟩ fun K Q hk s hs => ⟨noLam_ok _ _ _, ?_⟩
  obtain ⟨n, x, y⟩ := s
  obtain ⟨h1, h2⟩ := hs
  rw [rndGc]
  cases n with
  | zero => exact absurd h1 (Nat.not_lt_zero _)
  | succ n =>
    refine good_cond (fun c => ?_) fun c => ?_
    · have c : y ≠ 0 := by simpa using c
      have h2 : gcdE n y (x.tmod y) = gcdE (b.natAbs + 1) a b := by
        rw [← h2]
        show _ = if y = 0 then x else gcdE n y (x.tmod y)
        rw [if_neg c]
      have h1 : y.natAbs < n + 1 := h1
      have h3 : (x.tmod y).natAbs < y.natAbs := by
        rw [Int.natAbs_tmod]
        exact Nat.mod_lt _ (by omega)
      exact good_needs (by simp [obls, c]) (good_out ⟨(n, y, x.tmod y), ⟨⟨by show (x.tmod y).natAbs < n; omega, h2⟩, Nat.lt_succ_self _⟩, rfl, .nil⟩)
    · have c : y = 0 := by simpa using c
      have h2 : x = gcdE (b.natAbs + 1) a b := by
        rw [← h2]
        show _ = if y = 0 then x else gcdE n y (x.tmod y)
        rw [if_pos c]
      refine good_out ⟨_, .nil, ?_⟩
      rw [if_pos rfl]
      rw [← h2] at hk
      exact hk

def gcdF (a b : Int) : Int := if IntKind.wrap IntKind.i64 (0 - gcdE (b.natAbs + 1) a b) > gcdE (b.natAbs + 1) a b then IntKind.wrap IntKind.i64 (0 - gcdE (b.natAbs + 1) a b) else gcdE (b.natAbs + 1) a b
def F_gcd : List SA → Option FR
  | [.v (.int .i64 a), .v (.int .i64 b)] => some { val := .v (i64 (gcdF a b)) }
  | _ => none
theorem ok_gcd : SpecOk Tryz.prog 40 (specR [.val, .val] F_gcd) := by
  refine specR_hr g0_ok Tryz.func40 rfl fun sas fr hF ho => ?_
  unfold F_gcd at hF
  split at hF
  · rename_i a b
    cases hF
    refine ⟨[], lamGc a b (gcdE (b.natAbs + 1) a b), 100, .nil, lam1 (by kernel_rfl) (sumGc a b), ?_⟩
    show GoodQ (execF Tryz.prog g0 (lamGc a b (gcdE (b.natAbs + 1) a b)) 100 Tryz.f40 [.v (i64 a), .v (i64 b)] [] (packK 0)) _
    rw [treeGc]
    exact good_needs (by rw [ob_cons]; exact ⟨chk_of ⟨rfl, .nil⟩, rfl⟩) (good_out ⟨_, rfl, rfl, .nil⟩)
  · cases hF

end Go.Proofs.YtddhmidegldhdaaGreatDoor

/- The reference's RingDesign: trees; greatest common divisors. Conditions: numbers of 64 bits. -/
namespace Go.Proofs.YtddhmidegldhdaaGreatDoor
open Go.RowKit
set_option maxRecDepth 100000

theorem gcdE_abs : ∀ (n : Nat) (a b : Int), b.natAbs < n → (gcdE n a b).natAbs = Nat.gcd a.natAbs b.natAbs
  | 0, _, _, h => absurd h (Nat.not_lt_zero _)
  | n + 1, a, b, h => by
    unfold gcdE
    split
    · rename_i hb
      subst hb
      simp
    · rename_i hb
      have e : (a.tmod b).natAbs = a.natAbs % b.natAbs := Int.natAbs_tmod _ _
      have hlt : a.natAbs % b.natAbs < b.natAbs := Nat.mod_lt _ (by omega)
      rw [gcdE_abs n b (a.tmod b) (by omega), e, Nat.gcd_comm a.natAbs, Nat.gcd_rec b.natAbs a.natAbs, Nat.gcd_comm]
theorem gcdF_eq {a b : Int} (ha : -1000000000000 ≤ a ∧ a ≤ 1000000000000) (hb : -1000000000000 ≤ b ∧ b ≤ 1000000000000) : gcdF a b = (Nat.gcd a.natAbs b.natAbs : Int) := by
  have h := gcdE_abs (b.natAbs + 1) a b (Nat.lt_succ_self _)
  have hle : Nat.gcd a.natAbs b.natAbs ≤ 1000000000000 := by
    by_cases h0 : a.natAbs = 0
    · rw [h0, Nat.gcd_zero_left]
      omega
    · exact Nat.le_trans (Nat.gcd_le_left _ (by omega)) (by omega)
  unfold gcdF
  rw [wr_in (by omega)]
  split <;> omega

theorem treeNu (s r : Int) : execF Tryz.prog g0 noLam 100 Tryz.f42 [.v (i64 s), .v (i64 r)] [] (packK 0)
    = Res.out .ret [AV.agg [AV.v (.int .i64 s), AV.v (.int .i64 r), AV.v (.int .i64 0), AV.v (.int .i64 0), AV.v (.int .i64 0), AV.v (.int .i64 0), AV.v (.int .i64 0), AV.v (.int .i64 0), AV.v (.int .i64 0)]] [] := by kernel_rfl

def FnuO : List SA → Option FR
  | [.v (.int .i64 s), .v (.int .i64 r)] => some { val := .agg [.v (i64 s), .v (i64 r), .v (i64 0), .v (i64 0), .v (i64 0), .v (i64 0), .v (i64 0), .v (i64 0), .v (i64 0)] }
  | _ => none
theorem ok_num : SpecOk Tryz.prog 42 (specR [.val, .val] FnuO) := by
  refine specR_hr g0_ok Tryz.func42 rfl fun sas fr hF ho => ?_
  unfold FnuO at hF
  split at hF
  · rename_i s r
    cases hF
    refine ⟨[], noLam, 100, .nil, noLam' _, ?_⟩
    show GoodQ (execF Tryz.prog g0 noLam 100 Tryz.f42 [.v (i64 s), .v (i64 r)] [] (packK 0)) _
    rw [treeNu]
    exact good_out ⟨_, rfl, rfl, .nil⟩
  · cases hF
def FgcO (gf : Int → Int → Int) : List SA → Option FR
  | [.v (.int .i64 a), .v (.int .i64 b)] => some { val := .v (i64 (gf a b)) }
  | _ => none
theorem specR_sub' {P : Program} {f : FuncId} {mds : List Md} {F F' : List SA → Option FR} (h : ∀ sas fr', F' sas = some fr' → ∃ fr, F sas = some fr ∧ fr.val = fr'.val ∧ fr.new = fr'.new ∧ fr.put = fr'.put ∧ (obls fr'.obl = true → obls fr.obl = true)) (hs : SpecOk P f (specR mds F)) : SpecOk P f (specR mds F') := by
  refine ⟨hs.1, fun avs H base δ ν vals w hS ho hv hr hlt hf hsep htab => ?_⟩
  unfold specR at hS
  split at hS
  case h_2 => cases hS
  rename_i xs hxs
  split at hS
  case h_2 => cases hS
  rename_i fr' hF
  obtain ⟨fr, e, e1, e2, e3, e4⟩ := h _ _ hF
  split at hS
  case h_2 => cases hS
  rename_i av hav
  cases hc : ((!hasWr mds || nodupB ((ixC mds xs).filterMap id)) && fr'.new.all isRowT && Nat.beq (abP mds (xs.map (·.sa)) fr'.put).length (abC mds (xs.map (·.sa))).length) with
  | false => rw [hc] at hS; cases hS
  | true =>
  rw [hc] at hS
  simp only [cond_true, Option.some.injEq] at hS
  subst hS
  have ho' : obls (xs.flatMap (·.ob)) = true ∧ obls fr'.obl = true := by simpa [obls, List.all_append] using ho
  have hS2 : specR mds F avs H base = some { val := av, rd := (ixC mds xs).filterMap id, put := putC (ixC mds xs) (abP mds (xs.map (·.sa)) fr'.put), new := fr'.new, obl := xs.flatMap (·.ob) ++ fr.obl } := by
    unfold specR
    rw [hxs]
    simp only [e]
    rw [e1, e2, e3, hav]
    simp only [hc]
    rfl
  refine (hs.2 avs H base _ ν vals w hS2 (by simpa [obls, List.all_append] using And.intro ho'.1 (e4 ho'.2)) hv hr hlt hf hsep (htab.call fun x hx => by first | exact hx | cases hx)).mono ?_
  rintro e w' ⟨v, ν', rfl, d⟩
  exact ⟨v, ν', rfl, d.le, d.dom, d.val, d.put, d.new, d.os, d.tape, d.output, d.size, d.block, d.fresh, d.apart⟩
def Fti2 (ti : List Wh → List Wh) (okt : List Wh → Bool) : List SA → Option FR
  | [.row 2 g] => match g 0, g 1 with
    | [.int .i64 a0, .int .i64 a1, .int .i64 a2, .int .i64 a3, .int .i64 a4, .int .i64 a5, .int .i64 a6, .int .i64 a7, .int .i64 a8], [.int .i64 b0, .int .i64 b1, .int .i64 b2, .int .i64 b3, .int .i64 b4, .int .i64 b5, .int .i64 b6, .int .i64 b7, .int .i64 b8] => some { val := .tup [.own 0 (ti [⟨a0, ⟨a1, a2, a3, a4, a5, a6, a7, a8⟩⟩, ⟨b0, ⟨b1, b2, b3, b4, b5, b6, b7, b8⟩⟩]).length, .v (.bool (okt [⟨a0, ⟨a1, a2, a3, a4, a5, a6, a7, a8⟩⟩, ⟨b0, ⟨b1, b2, b3, b4, b5, b6, b7, b8⟩⟩]))], new := [.row true (ti [⟨a0, ⟨a1, a2, a3, a4, a5, a6, a7, a8⟩⟩, ⟨b0, ⟨b1, b2, b3, b4, b5, b6, b7, b8⟩⟩]).length 9 (row9 (wfun (ti [⟨a0, ⟨a1, a2, a3, a4, a5, a6, a7, a8⟩⟩, ⟨b0, ⟨b1, b2, b3, b4, b5, b6, b7, b8⟩⟩]))) 60] }
    | _, _ => none
  | _ => none
theorem ok_ti2 : SpecOk Tryz.prog 41 (specR md_ws (Fti2 tidyL okT)) := by
  have h := ok_tidyS
  rw [← FtidyO_eq] at h
  refine specR_sub' (fun sas fr hF => ?_) h
  unfold Fti2 at hF
  split at hF
  · rename_i g
    split at hF
    · rename_i a0 a1 a2 a3 a4 a5 a6 a7 a8 b0 b1 b2 b3 b4 b5 b6 b7 b8 e0 e1
      cases hF
      have hL : listW (itW g) 2 = [⟨a0, ⟨a1, a2, a3, a4, a5, a6, a7, a8⟩⟩, ⟨b0, ⟨b1, b2, b3, b4, b5, b6, b7, b8⟩⟩] := by
        show [whOf (itW g 0), whOf (itW g 1)] = _
        unfold whOf itW
        rw [e0, e1]
        rfl
      refine ⟨_, rfl, by simp only [hL], by simp only [hL], rfl, ?_⟩
      · have ha : allW 2 g = true := List.all_eq_true.2 fun j hj => by
          have hj : j < 2 := by simpa using hj
          rcases (by omega : j = 0 ∨ j = 1) with rfl | rfl
          · rw [e0]; rfl
          · rw [e1]; rfl
        intro _
        simp only [ob_cons, ob_nil, and_true]
        exact ⟨ha, by decide⟩
    · cases hF
  · cases hF
def gmRd (gf : Int → Int → Int) (ti : List Wh → List Wh) (okt : List Wh → Bool) : Gam := ext (ext (ext gm_l6In 40 (specR [.val, .val] (FgcO gf))) 42 (specR [.val, .val] FnuO)) 41 (specR md_ws (Fti2 ti okt))
theorem treeRd_h (gf : Int → Int → Int) (ti : List Wh → List Wh) (okt : List Wh → Bool) (a b : Int) (c : Bool) (d : Int) (u3 : _) (hu3 : (0 : Int) = u3) (u4 : _) (hu4 : [AV.tup [AV.own 0 (0 : Nat), AV.v (.bool false)]] = u4) (u5 : _) (hu5 : [AB.row true (0 : Nat) (9 : Nat) (fun _ ↦ []) (60 : Nat)] = u5) (u6 : _) (hu6 : (!decide (gf a b = u3)) = u6) (u7 : _) (hu7 : (IntKind.wrap .i64 (Int.tdiv b (gf a b))) = u7) (u1 : _) (hu1 : [Wh.mk u7 (Cy.mk (IntKind.wrap .i64 (a + b)) u3 u3 u3 u3 u3 u3 u3), Wh.mk (IntKind.wrap .i64 (Int.tdiv (IntKind.wrap .i64 (a + b)) (gf a b))) (Cy.mk (IntKind.wrap .i64 (u3 - d)) u3 u3 u3 u3 u3 u3 u3)] = u1) (u2 : _) (hu2 : [Wh.mk u7 (Cy.mk (IntKind.wrap .i64 (a - b)) u3 u3 u3 u3 u3 u3 u3), Wh.mk (IntKind.wrap .i64 (Int.tdiv (IntKind.wrap .i64 (b - a)) (gf a b))) (Cy.mk d u3 u3 u3 u3 u3 u3 u3)] = u2) (u0 : _) (hu0 : (bif !inR d (-300 : Int) (300 : Int) then Res.out .ret u4 u5 else bif c then needs [u6, u6] (Res.out .ret [AV.tup [AV.own 0 (List.length (ti u2)), AV.v (.bool (okt u2))]] [AB.row true (List.length (ti u2)) (9 : Nat) (row9 (wfun (ti u2))) 60]) else needs [u6, u6] (Res.out .ret [AV.tup [AV.own 0 (List.length (ti u1)), AV.v (.bool (okt u1))]] [AB.row true (List.length (ti u1)) (9 : Nat) (row9 (wfun (ti u1))) 60])) = u0) : execF Tryz.prog (gmRd gf ti okt) noLam 100 Tryz.f12 [.v (i64 a), .v (i64 b), .v (.bool c), .v (i64 d)] [] (packK 0)
    = bif !inR a (6 : Int) (240 : Int) then Res.out .ret u4 u5 else bif !inR b (6 : Int) (240 : Int) then Res.out .ret u4 u5 else bif c then bif decide (b ≥ a) then Res.out .ret u4 u5 else needs [u6] u0 else needs [u6] u0 := by
  subst hu0 hu2 hu1 hu7 hu6 hu5 hu4 hu3
  kernel_rfl
theorem treeRd (gf : Int → Int → Int) (ti : List Wh → List Wh) (okt : List Wh → Bool) (a b : Int) (c : Bool) (d : Int) : type_of% (treeRd_h gf ti okt a b c d _ rfl _ rfl _ rfl _ rfl _ rfl _ rfl _ rfl _ rfl) := treeRd_h gf ti okt a b c d _ rfl _ rfl _ rfl _ rfl _ rfl _ rfl _ rfl _ rfl

def FrdO (rd : Int → Int → Bool → Int → List Wh) (ro : Int → Int → Bool → Int → Bool) : List SA → Option FR
  | [.v (.int .i64 a), .v (.int .i64 b), .v (.bool c), .v (.int .i64 d)] => some { val := .tup [.own 0 (rd a b c d).length, .v (.bool (ro a b c d))], new := [.row true (rd a b c d).length 9 (row9 (wfun (rd a b c d))) 60] }
  | _ => none
def rnP (a b : Int) (c : Bool) (d : Int) : Bool := inR a 6 240 && (inR b 6 240 && (!(c && decide (b ≥ a)) && inR d (-300) 300))
def rnW (a b : Int) (c : Bool) (d : Int) : List Wh := bif c then [⟨IntKind.wrap IntKind.i64 (Int.tdiv b (gcdF a b)), ⟨IntKind.wrap IntKind.i64 (a - b), 0, 0, 0, 0, 0, 0, 0⟩⟩, ⟨IntKind.wrap IntKind.i64 (Int.tdiv (IntKind.wrap IntKind.i64 (b - a)) (gcdF a b)), ⟨d, 0, 0, 0, 0, 0, 0, 0⟩⟩] else [⟨IntKind.wrap IntKind.i64 (Int.tdiv b (gcdF a b)), ⟨IntKind.wrap IntKind.i64 (a + b), 0, 0, 0, 0, 0, 0, 0⟩⟩, ⟨IntKind.wrap IntKind.i64 (Int.tdiv (IntKind.wrap IntKind.i64 (a + b)) (gcdF a b)), ⟨IntKind.wrap IntKind.i64 (0 - d), 0, 0, 0, 0, 0, 0, 0⟩⟩]
def rnL (a b : Int) (c : Bool) (d : Int) : List Wh := bif rnP a b c d then tidyL (rnW a b c d) else []
def rnO (a b : Int) (c : Bool) (d : Int) : Bool := rnP a b c d && okT (rnW a b c d)
theorem gmRd_ok : GamOk Tryz.prog (gmRd gcdF tidyL okT) := by
  refine ext_ok (ext_ok (ext_ok gm_l6In_ok ?_) ok_num) ok_ti2
  have e : FgcO gcdF = F_gcd := by funext l; rfl
  rw [e]
  exact ok_gcd
theorem gcd_nz {a b : Int} (ha : inR a 6 240 = true) (hb : inR b 6 240 = true) : gcdF a b ≠ 0 := by
  have ha := inR_iff.1 ha
  have hb := inR_iff.1 hb
  rw [gcdF_eq (by omega) (by omega)]
  have : 0 < Nat.gcd a.natAbs b.natAbs := Nat.gcd_pos_of_pos_left _ (by omega)
  omega
theorem rnL_no {a b : Int} {c : Bool} {d : Int} (h : rnP a b c d = false) : rnL a b c d = [] ∧ rnO a b c d = false := ⟨by rw [rnL, h]; rfl, by rw [rnO, h]; rfl⟩
theorem rnL_yes {a b : Int} {c : Bool} {d : Int} (h : rnP a b c d = true) : rnL a b c d = tidyL (rnW a b c d) ∧ rnO a b c d = okT (rnW a b c d) := ⟨by rw [rnL, h]; rfl, by rw [rnO, h, Bool.true_and]⟩
theorem rnL_len (a b : Int) (c : Bool) (d : Int) : (rnL a b c d).length ≤ 12 := by
  cases h : rnP a b c d with
  | false => rw [(rnL_no h).1]; exact Nat.zero_le _
  | true =>
    rw [(rnL_yes h).1]
    cases ht : okT (rnW a b c d) with
    | true => exact tidyL_len ht
    | false => rw [tidyL_no ht]; exact Nat.zero_le _
theorem ok_rd : SpecOk Tryz.prog 12 (specR [.val, .val, .val, .val] (FrdO rnL rnO)) := by
  refine specR_hr gmRd_ok Tryz.func12 rfl fun sas fr hF ho => ?_
  unfold FrdO at hF
  split at hF
  · rename_i a b c d
    cases hF
    refine ⟨[], noLam, 100, .nil, noLam' _, ?_⟩
    show GoodQ (execF Tryz.prog (gmRd gcdF tidyL okT) noLam 100 Tryz.f12 [.v (i64 a), .v (i64 b), .v (.bool c), .v (i64 d)] [] (packK 0)) _
    rw [treeRd]
    have bad : rnP a b c d = false → GoodQ (.out .ret [.tup [.own 0 0, .v (.bool false)]] [.row true 0 9 (fun _ => []) 60]) (GivR (abP [.val, .val, .val, .val] [.v (.int .i64 a), .v (.int .i64 b), .v (.bool c), .v (.int .i64 d)] []) { val := .tup [.own 0 (rnL a b c d).length, .v (.bool (rnO a b c d))], new := [.row true (rnL a b c d).length 9 (row9 (wfun (rnL a b c d))) 60] }) := by
      intro h
      rw [(rnL_no h).1, (rnL_no h).2]
      exact good_out ⟨_, rfl, rfl, .cons (ABeq.row fun j hj => absurd hj (Nat.not_lt_zero _)) .nil⟩
    have yes : ∀ M : List Wh, rnP a b c d = true → rnW a b c d = M → GoodQ (.out .ret [.tup [.own 0 (tidyL M).length, .v (.bool (okT M))]] [.row true (tidyL M).length 9 (row9 (wfun (tidyL M))) 60]) (GivR (abP [.val, .val, .val, .val] [.v (.int .i64 a), .v (.int .i64 b), .v (.bool c), .v (.int .i64 d)] []) { val := .tup [.own 0 (rnL a b c d).length, .v (.bool (rnO a b c d))], new := [.row true (rnL a b c d).length 9 (row9 (wfun (rnL a b c d))) 60] }) := by
      rintro M h rfl
      rw [(rnL_yes h).1, (rnL_yes h).2]
      exact good_out ⟨_, rfl, rfl, Hsim.refl _⟩
    cases h1 : inR a 6 240 with
    | false => exact good_true rfl (bad (by rw [rnP, h1]; rfl))
    | true =>
    refine good_false rfl ?_
    cases h2 : inR b 6 240 with
    | false => exact good_true rfl (bad (by rw [rnP, h1, h2]; rfl))
    | true =>
    refine good_false rfl ?_
    have hz : decide (gcdF a b = 0) = false := decide_eq_false (gcd_nz h1 h2)
    rw [hz]
    cases c with
    | true =>
      refine good_true rfl ?_
      cases h3 : decide (b ≥ a) with
      | true => exact good_true rfl (bad (by rw [rnP, h1, h2, h3]; rfl))
      | false =>
      refine good_false rfl (good_needs rfl ?_)
      cases h4 : inR d (-300) 300 with
      | false => exact good_true rfl (bad (by rw [rnP, h1, h2, h3, h4]; rfl))
      | true => exact good_false rfl (good_true rfl (good_needs rfl (yes _ (by rw [rnP, h1, h2, h3, h4]; rfl) rfl)))
    | false =>
      refine good_false rfl (good_needs rfl ?_)
      cases h4 : inR d (-300) 300 with
      | false => exact good_true rfl (bad (by rw [rnP, h1, h2, h4]; rfl))
      | true => exact good_false rfl (good_false rfl (good_needs rfl (yes _ (by rw [rnP, h1, h2, h4]; rfl) rfl)))
  · cases hF

end Go.Proofs.YtddhmidegldhdaaGreatDoor

/- The greatest common divisor, of both. Conditions: numbers up to 10^12. -/
namespace Go.Proofs.YtddhmidegldhdaaGreatDoor
open Go.RowKit
set_option maxRecDepth 100000

def gcdI (a b : Int) : Int := (Nat.gcd a.natAbs b.natAbs : Int)
def FgdO (gf : Int → Int → Int) : List SA → Option FR
  | [.v (.int .i64 a), .v (.int .i64 b)] => some { val := .v (i64 (gf a b)), obl := [inR a (-1000000000000) 1000000000000, inR b (-1000000000000) 1000000000000] }
  | _ => none
theorem ok_gdS : SpecOk Tryz.prog 40 (specR [.val, .val] (FgdO gcdI)) := by
  refine ⟨ok_gcd.1, fun avs H base δ ν vals w hS ho hv hr hlt hf hsep htab => ?_⟩
  unfold specR at hS
  split at hS
  case h_2 => cases hS
  rename_i xs hxs
  split at hS
  case h_2 => cases hS
  rename_i fr' hF
  unfold FgdO at hF
  split at hF
  case h_2 => cases hF
  rename_i a b hx
  cases hF
  have hS' := hS
  simp only [shA] at hS
  cases hc : ((!hasWr [Md.val, Md.val] || nodupB ((ixC [Md.val, Md.val] xs).filterMap id)) && ([] : List AB).all isRowT && Nat.beq (abP [Md.val, Md.val] (xs.map (·.sa)) []).length (abC [Md.val, Md.val] (xs.map (·.sa))).length) with
  | false => rw [hc] at hS; cases hS
  | true =>
  rw [hc] at hS
  simp only [cond_true, Option.some.injEq] at hS
  subst hS
  have ho' : obls (xs.flatMap (·.ob)) = true ∧ obls [inR a (-1000000000000) 1000000000000, inR b (-1000000000000) 1000000000000] = true := by simpa [obls, List.all_append] using ho
  have h2 := ho'.2
  simp only [ob_cons] at h2
  have ha := inR_iff.1 h2.1
  have hb := inR_iff.1 h2.2.1
  have hS2 : specR [.val, .val] F_gcd avs H base = some { val := .v (i64 (gcdI a b)), rd := (ixC [Md.val, Md.val] xs).filterMap id, put := putC (ixC [Md.val, Md.val] xs) (abP [Md.val, Md.val] (xs.map (·.sa)) []), new := [], obl := xs.flatMap (·.ob) ++ [] } := by
    unfold specR
    rw [hxs]
    simp only [hx, F_gcd, shA, gcdF_eq ha hb]
    rw [hx] at hc
    simp only [hc]
    rfl
  refine (ok_gcd.2 avs H base _ ν vals w hS2 (by simpa [obls, List.all_append] using ho'.1) hv hr hlt hf hsep (htab.call fun x hx => by first | exact hx | cases hx)).mono ?_
  rintro e w' ⟨v, ν', rfl, d⟩
  exact ⟨v, ν', rfl, d.le, d.dom, d.val, d.put, d.new, d.os, d.tape, d.output, d.size, d.block, d.fresh, d.apart⟩

abbrev lvGd : Ex → List Nat := lv3 [0, 1] [0] [4]
theorem rndGd (a b : Int) : execC Tryz.prog g0 100 noLam (loopAt 0 Tryz.f61) (mkT 0 15 ((lvGd .normal).zip [.v (i64 a), .v (i64 b)])) [] (leafV 15 lvGd 0)
    = bif b != (0 : Int) then needs [!decide (b = (0 : Int))] (Res.out .normal [AV.v (.int .i64 b), AV.v (.int .i64 (Int.tmod a b))] []) else Res.out (Ex.exit (0 : Nat)) [AV.v (.int .i64 a)] [] := by kernel_rfl

noncomputable abbrev lamGd (a b c : Int) : Nat → Option Sum := oneL 0 (atS 15 (lvGd .normal) 0 [.v (i64 a), .v (i64 b)] [] (fun K => K .normal (mkT 0 15 [(0, .v (i64 c))]) []))
theorem treeGd (a b c : Int) : execF Tryz.prog g0 (lamGd a b c) 100 Tryz.f61 [.v (i64 a), .v (i64 b)] [] (packK 0)
    = needs [chk ([AV.v (.int .i64 a), AV.v (.int .i64 b)] = [AV.v (.int .i64 a), AV.v (.int .i64 b)] ∧ Hsim [] [])] (Res.out .ret [AV.v (.int .i64 (if IntKind.wrap .i64 ((0 : Int) - c) > c then IntKind.wrap .i64 ((0 : Int) - c) else c))] []) := by kernel_rfl

theorem sumGd (a b : Int) : SumOk Tryz.prog 0 (.block 0 (.loop (loopAt 0 Tryz.f61))) (atS 15 (lvGd .normal) 0 [.v (i64 a), .v (i64 b)] [] (fun K => K .normal (mkT 0 15 [(0, .v (i64 (gcdE (b.natAbs + 1) a b)))]) [])) := by
  refine loop_at g0_ok (n := 100) (m := 0) (lv := lvGd) (σ := Nat × Int × Int) (fun s => [.v (i64 s.2.1), .v (i64 s.2.2)]) (fun _ => []) (fun s => s.2.2.natAbs < s.1 ∧ gcdE s.1 s.2.1 s.2.2 = gcdE (b.natAbs + 1) a b) (fun s => s.1) (b.natAbs + 1, a, b) (fun _ => noLam) (lv3_ris rfl rfl rfl) (Nat.le_refl _) ⟨Nat.lt_succ_self _, rfl⟩ fun K Q hk s hs => ⟨noLam_ok _ _ _, ?_⟩
  obtain ⟨n, x, y⟩ := s
  obtain ⟨h1, h2⟩ := hs
  rw [rndGd]
  cases n with
  | zero => exact absurd h1 (Nat.not_lt_zero _)
  | succ n =>
    refine good_cond (fun c => ?_) fun c => ?_
    · have c : y ≠ 0 := by simpa using c
      have h2 : gcdE n y (x.tmod y) = gcdE (b.natAbs + 1) a b := by
        rw [← h2]
        show _ = if y = 0 then x else gcdE n y (x.tmod y)
        rw [if_neg c]
      have h1 : y.natAbs < n + 1 := h1
      have h3 : (x.tmod y).natAbs < y.natAbs := by
        rw [Int.natAbs_tmod]
        exact Nat.mod_lt _ (by omega)
      exact good_needs (by simp [obls, c]) (good_out ⟨(n, y, x.tmod y), ⟨⟨by show (x.tmod y).natAbs < n; omega, h2⟩, Nat.lt_succ_self _⟩, rfl, .nil⟩)
    · have c : y = 0 := by simpa using c
      have h2 : x = gcdE (b.natAbs + 1) a b := by
        rw [← h2]
        show _ = if y = 0 then x else gcdE n y (x.tmod y)
        rw [if_pos c]
      refine good_out ⟨_, .nil, ?_⟩
      rw [if_pos rfl]
      rw [← h2] at hk
      exact hk


theorem ok_gdI : SpecOk Tryz.prog 61 (specR [.val, .val] (FgdO gcdI)) := by
  refine specR_hr g0_ok Tryz.func61 rfl fun sas fr hF ho => ?_
  unfold FgdO at hF
  split at hF
  · rename_i a b
    cases hF
    simp only [ob_cons] at ho
    obtain ⟨ha, hb, _⟩ := ho
    have e := gcdF_eq (inR_iff.1 ha) (inR_iff.1 hb)
    refine ⟨[], lamGd a b (gcdE (b.natAbs + 1) a b), 100, .nil, lam1 (by kernel_rfl) (sumGd a b), ?_⟩
    show GoodQ (execF Tryz.prog g0 (lamGd a b (gcdE (b.natAbs + 1) a b)) 100 Tryz.f61 [.v (i64 a), .v (i64 b)] [] (packK 0)) _
    rw [treeGd]
    refine good_needs (by rw [ob_cons]; exact ⟨chk_of ⟨rfl, .nil⟩, rfl⟩) (good_out ⟨_, rfl, ?_, .nil⟩)
    show [AV.v (i64 (gcdF a b))] = [AV.v (i64 (gcdI a b))]
    rw [e]
    rfl
  · cases hF

end Go.Proofs.YtddhmidegldhdaaGreatDoor

/- DesignPeriod and DesignFold of both: trees. Conditions: a list of wheels. -/
namespace Go.Proofs.YtddhmidegldhdaaGreatDoor
open Go.RowKit
set_option maxRecDepth 100000

def gmPr (gf : Int → Int → Int) : Gam := ext (ext g0 61 (specR [.val, .val] (FgdO gf))) 40 (specR [.val, .val] (FgdO gf))
def gmPt (yI : List Wh → Bool) (tI : List Wh → List Wh) : Gam := ext (ext g0 43 (specU md_ws (UO0 yI tI))) 123 (specR md_ws (FOw yI tI))
noncomputable abbrev fPI : Func := Tryz.f25
abbrev hpPI (m : Nat) (f : Nat → Nat → Int) (k : Nat) (g : Nat → Nat → Int) : List AB := [.row false m 9 (row9 f) 60, .row false k 9 (row9 g) 60]
abbrev hpP1 (m : Nat) (f : Nat → Nat → Int) : List AB := [.row false m 9 (row9 f) 60]
abbrev lvPI : Ex → List Nat := lv3 [5, 15, 16, 17] [5] [2]
abbrev stPI (k : Nat) (x : Int) (i : Nat) : List AV := [.v (i64 x), .sl 1 9 0 0 k (some k), .v (i64 k), .v (i64 i)]
theorem rndPI (gf : Int → Int → Int) (m : Nat) (f : Nat → Nat → Int) (k : Nat) (g : Nat → Nat → Int) (x : Int) (i : Nat) : execC Tryz.prog (gmPr gf) 100 noLam (loopAt 0 fPI) (mkT 0 27 ((lvPI .normal).zip (stPI k x i))) (hpPI m f k g) (leafV 27 lvPI 1)
    = bif decide ((↑i : Int) < (↑k : Int)) then needs [decide ((↑i : Int) < (↑k : Int)), decide ((0 : Nat) + Int.toNat (↑i : Int) < k), inR x (-1000000000000 : Int) (1000000000000 : Int), inR (g ((0 : Nat) + Int.toNat (↑i : Int)) (0 : Nat)) (-1000000000000 : Int) (1000000000000 : Int)] (Res.out .normal [AV.v (.int .i64 (gf x (g ((0 : Nat) + Int.toNat (↑i : Int)) (0 : Nat)))), AV.sl 1 (9 : Nat) (0 : Nat) (0 : Nat) k (some k), AV.v (.int .i64 (↑k : Int)), AV.v (.int .i64 (IntKind.wrap .i64 ((↑i : Int) + (1 : Int))))] [AB.row false m 9 (row9 f) 60, AB.row false k 9 (row9 g) 60]) else Res.out (Ex.exit (0 : Nat)) [AV.v (.int .i64 x)] [AB.row false m 9 (row9 f) 60] := by kernel_rfl

noncomputable abbrev lamPI (m : Nat) (f : Nat → Nat → Int) (k : Nat) (g : Nat → Nat → Int) (x : Int) : Nat → Option Sum := oneL 0 (atS 27 (lvPI .normal) 1 (stPI k 0 0) (hpPI m f k g) (fun K => K .normal (mkT 0 27 [(5, .v (i64 x))]) (hpP1 m f)))
theorem treePI_h (yI : List Wh → Bool) (tI : List Wh → List Wh) (m : Nat) (f : Nat → Nat → Int) (k : Nat) (g : Nat → Nat → Int) (x : Int) (u0 : _) (hu0 : (listW (itW fun q ↦ row9 f ((0 : Nat) + q)) m) = u0) (u1 : _) (hu1 : (AB.row false m 9 (row9 f) 60) = u1) (u2 : _) (hu2 : (List.length (tI u0)) = u2) : execF Tryz.prog (gmPt yI tI) (lamPI m f k g x) 100 fPI [.sl 0 9 0 0 m none] (hpP1 m f) (packK 1)
    = needs [Nat.ble ((0 : Nat) + m) m, allW m fun q ↦ row9 f ((0 : Nat) + q), decide (m ≤ (274877906944 : Nat))] (bif !yI u0 then Res.out .ret [AV.v (.int .i64 (-1 : Int))] [u1] else needs [chk ([AV.v (.int .i64 0), AV.sl 1 (9 : Nat) (0 : Nat) (0 : Nat) u2 (some u2), AV.v (.int .i64 (↑u2 : Int)), AV.v (.int .i64 0)] = stPI k (0 : Int) (0 : Nat) ∧ Hsim [u1, AB.row false u2 9 (row9 (wfun (tI u0))) 60] (hpPI m f k g))] (Res.out .ret [AV.v (.int .i64 x)] [u1])) := by
  subst hu2 hu1 hu0
  kernel_rfl
theorem treePI (yI : List Wh → Bool) (tI : List Wh → List Wh) (m : Nat) (f : Nat → Nat → Int) (k : Nat) (g : Nat → Nat → Int) (x : Int) : type_of% (treePI_h yI tI m f k g x _ rfl _ rfl _ rfl) := treePI_h yI tI m f k g x _ rfl _ rfl _ rfl

noncomputable abbrev fQI : Func := Tryz.f24
abbrev lvQI : Ex → List Nat := lv3 [3, 5, 15, 16, 17] [5] [2]
abbrev stQI (k : Nat) (x : Int) (i : Nat) : List AV := [.sl 1 9 0 0 k (some k), .v (i64 x), .sl 1 9 0 0 k (some k), .v (i64 k), .v (i64 i)]
theorem rndQI (gf : Int → Int → Int) (m : Nat) (f : Nat → Nat → Int) (k : Nat) (g : Nat → Nat → Int) (x : Int) (i : Nat) : execC Tryz.prog (gmPr gf) 100 noLam (loopAt 0 fQI) (mkT 0 32 ((lvQI .normal).zip (stQI k x i))) (hpPI m f k g) (leafV 32 lvQI 1)
    = bif decide ((↑i : Int) < (↑k : Int)) then needs [decide ((↑i : Int) < (↑k : Int)), decide ((0 : Nat) + Int.toNat (↑i : Int) < k), decide ((0 : Int) < (↑k : Int)), decide ((0 : Nat) < k), inR x (-1000000000000 : Int) (1000000000000 : Int), inR (IntKind.wrap .i64 (g ((0 : Nat) + Int.toNat (↑i : Int)) (0 : Nat) - g (0 : Nat) (0 : Nat))) (-1000000000000 : Int) (1000000000000 : Int)] (Res.out .normal [AV.sl 1 (9 : Nat) (0 : Nat) (0 : Nat) k (some k), AV.v (.int .i64 (gf x (IntKind.wrap .i64 (g ((0 : Nat) + Int.toNat (↑i : Int)) (0 : Nat) - g (0 : Nat) (0 : Nat))))), AV.sl 1 (9 : Nat) (0 : Nat) (0 : Nat) k (some k), AV.v (.int .i64 (↑k : Int)), AV.v (.int .i64 (IntKind.wrap .i64 ((↑i : Int) + (1 : Int))))] [AB.row false m 9 (row9 f) 60, AB.row false k 9 (row9 g) 60]) else Res.out (Ex.exit (0 : Nat)) [AV.v (.int .i64 x)] [AB.row false m 9 (row9 f) 60] := by kernel_rfl

noncomputable abbrev lamQI (m : Nat) (f : Nat → Nat → Int) (k : Nat) (g : Nat → Nat → Int) (x : Int) : Nat → Option Sum := oneL 0 (atS 32 (lvQI .normal) 1 (stQI k 0 0) (hpPI m f k g) (fun K => K .normal (mkT 0 32 [(5, .v (i64 x))]) (hpP1 m f)))
theorem treeQI_h (yI : List Wh → Bool) (tI : List Wh → List Wh) (m : Nat) (f : Nat → Nat → Int) (k : Nat) (g : Nat → Nat → Int) (x : Int) (u1 : _) (hu1 : (listW (itW fun q ↦ row9 f ((0 : Nat) + q)) m) = u1) (u2 : _) (hu2 : (AB.row false m 9 (row9 f) 60) = u2) (u0 : _) (hu0 : (List.length (tI u1)) = u0) (u3 : _) (hu3 : (AV.sl 1 (9 : Nat) (0 : Nat) (0 : Nat) u0 (some u0)) = u3) : execF Tryz.prog (gmPt yI tI) (lamQI m f k g x) 100 fQI [.sl 0 9 0 0 m none] (hpP1 m f) (packK 1)
    = needs [Nat.ble ((0 : Nat) + m) m, allW m fun q ↦ row9 f ((0 : Nat) + q), decide (m ≤ (274877906944 : Nat))] (bif !yI u1 then Res.out .ret [AV.v (.int .i64 (-1 : Int))] [u2] else needs [chk ([u3, AV.v (.int .i64 0), u3, AV.v (.int .i64 (↑u0 : Int)), AV.v (.int .i64 0)] = stQI k (0 : Int) (0 : Nat) ∧ Hsim [u2, AB.row false u0 9 (row9 (wfun (tI u1))) 60] (hpPI m f k g))] (Res.out .ret [AV.v (.int .i64 x)] [u2])) := by
  subst hu3 hu0 hu2 hu1
  kernel_rfl
theorem treeQI (yI : List Wh → Bool) (tI : List Wh → List Wh) (m : Nat) (f : Nat → Nat → Int) (k : Nat) (g : Nat → Nat → Int) (x : Int) : type_of% (treeQI_h yI tI m f k g x _ rfl _ rfl _ rfl _ rfl) := treeQI_h yI tI m f k g x _ rfl _ rfl _ rfl _ rfl

end Go.Proofs.YtddhmidegldhdaaGreatDoor

/- DesignPeriod and DesignFold of both: their words. Conditions: a list of wheels. -/
namespace Go.Proofs.YtddhmidegldhdaaGreatDoor
open Go.RowKit
set_option maxRecDepth 100000

def pgF (h : Nat → Int) : Nat → Int
  | 0 => 0
  | i + 1 => gcdI (pgF h i) (h i)
theorem pgF_in {h : Nat → Int} {k : Nat} (hh : ∀ i, i < k → -2000 ≤ h i ∧ h i ≤ 2000) : ∀ i, i ≤ k → 0 ≤ pgF h i ∧ pgF h i ≤ 2000
  | 0, _ => by show 0 ≤ (0 : Int) ∧ (0 : Int) ≤ 2000; omega
  | i + 1, hi => by
    have ih := pgF_in hh i (by omega)
    have hb := hh i (by omega)
    show 0 ≤ (Nat.gcd (pgF h i).natAbs (h i).natAbs : Int) ∧ (Nat.gcd (pgF h i).natAbs (h i).natAbs : Int) ≤ 2000
    refine ⟨by omega, ?_⟩
    by_cases h0 : (pgF h i).natAbs = 0
    · rw [h0, Nat.gcd_zero_left]
      omega
    · have := Nat.gcd_le_left (h i).natAbs (show 0 < (pgF h i).natAbs by omega)
      omega
theorem gmPr_ok : GamOk Tryz.prog (gmPr gcdI) := ext_ok (ext_ok g0_ok ok_gdI) ok_gdS
theorem gmPt_ok : GamOk Tryz.prog (gmPt yI tI) := ext_ok (ext_ok g0_ok ok_UTi) ok_tiS
def spH (T : List Wh) : Nat → Int := fun i => wfun T i 0
def dfH (T : List Wh) : Nat → Int := fun i => IntKind.wrap IntKind.i64 (wfun T i 0 - wfun T 0 0)
theorem spH_at {T : List Wh} {i : Nat} (hi : i < T.length) : spH T i = T[i].s := by
  unfold spH
  rw [wfun_get hi]
  rfl
theorem tidy_sp {T : List Wh} (h : isTidy T) {i : Nat} (hi : i < T.length) : -1000 ≤ wfun T i 0 ∧ wfun T i 0 ≤ 1000 := by
  have e : wfun T i 0 = T[i].s := spH_at hi
  rw [e]
  exact (okD_all (tidy_okD h) (List.getElem_mem hi)).1
theorem sumPI (m : Nat) (f : Nat → Nat → Int) (T : List Wh) (hT : isTidy T) :
    SumOk Tryz.prog 1 (.block 0 (.loop (loopAt 0 fPI))) (atS 27 (lvPI .normal) 1 (stPI T.length 0 0) (hpPI m f T.length (wfun T)) (fun K => K .normal (mkT 0 27 [(5, .v (i64 (pgF (spH T) T.length)))]) (hpP1 m f))) := by
  refine for_at gmPr_ok (n := 100) (m := 1) (lv := lvPI) (fun i => stPI T.length (pgF (spH T) i) i) (fun _ => hpPI m f T.length (wfun T)) (fun _ => True) T.length (fun _ => noLam) (lv3_ris rfl rfl rfl) (Nat.le_refl _) trivial fun K Q hk i _ hi => ⟨noLam_ok _ _ _, ?_⟩
  have hlen := okD_len (tidy_okD hT)
  rw [rndPI]
  refine good_cond (fun c1 => ?_) fun c1 => ?_
  · have c1 := of_decide_eq_true c1
    have c1' : i < T.length := by omega
    rw [show 0 + Int.toNat (i : Int) = i by omega, wr_in (x := (i : Int) + 1) (by omega)]
    have h1 := pgF_in (h := spH T) (k := T.length) (fun j hj => by have := tidy_sp hT hj; show -2000 ≤ wfun T j 0 ∧ wfun T j 0 ≤ 2000; omega) i (by omega)
    have h2 := tidy_sp hT c1'
    refine good_needs (by simp only [ob_cons, ob_nil, and_true, decide_eq_true_eq]; exact ⟨by omega, by omega, inR_iff.2 (by omega), inR_iff.2 (by omega)⟩) (good_out ⟨i + 1, ⟨rfl, c1', trivial⟩, rfl, Hsim.refl _⟩)
  · have c1 := of_decide_eq_false c1
    have : i = T.length := by omega
    subst this
    refine good_out ⟨_, Hsim.refl _, ?_⟩
    rw [if_pos rfl]
    exact hk
theorem dfH_in {T : List Wh} (hT : isTidy T) {i : Nat} (hi : i < T.length) : -2000 ≤ dfH T i ∧ dfH T i ≤ 2000 := by
  have h1 := tidy_sp hT hi
  have h0 := tidy_sp hT (i := 0) (by omega)
  unfold dfH
  rw [wr_in (by omega)]
  omega
theorem sumQI (m : Nat) (f : Nat → Nat → Int) (T : List Wh) (hT : isTidy T) :
    SumOk Tryz.prog 1 (.block 0 (.loop (loopAt 0 fQI))) (atS 32 (lvQI .normal) 1 (stQI T.length 0 0) (hpPI m f T.length (wfun T)) (fun K => K .normal (mkT 0 32 [(5, .v (i64 (pgF (dfH T) T.length)))]) (hpP1 m f))) := by
  refine for_at gmPr_ok (n := 100) (m := 1) (lv := lvQI) (fun i => stQI T.length (pgF (dfH T) i) i) (fun _ => hpPI m f T.length (wfun T)) (fun _ => True) T.length (fun _ => noLam) (lv3_ris rfl rfl rfl) (Nat.le_refl _) trivial fun K Q hk i _ hi => ⟨noLam_ok _ _ _, ?_⟩
  have hlen := okD_len (tidy_okD hT)
  rw [rndQI]
  refine good_cond (fun c1 => ?_) fun c1 => ?_
  · have c1 := of_decide_eq_true c1
    have c1' : i < T.length := by omega
    rw [show 0 + Int.toNat (i : Int) = i by omega, wr_in (x := (i : Int) + 1) (by omega)]
    have h1 := pgF_in (h := dfH T) (k := T.length) (fun j hj => dfH_in hT hj) i (by omega)
    have h2 : -2000 ≤ IntKind.wrap IntKind.i64 (wfun T i 0 - wfun T 0 0) ∧ IntKind.wrap IntKind.i64 (wfun T i 0 - wfun T 0 0) ≤ 2000 := dfH_in hT c1'
    refine good_needs (by simp only [ob_cons, ob_nil, and_true, decide_eq_true_eq]; exact ⟨by omega, by omega, by omega, by omega, inR_iff.2 (by omega), inR_iff.2 (by omega)⟩) (good_out ⟨i + 1, ⟨rfl, c1', trivial⟩, rfl, Hsim.refl _⟩)
  · have c1 := of_decide_eq_false c1
    have : i = T.length := by omega
    subst this
    refine good_out ⟨_, Hsim.refl _, ?_⟩
    rw [if_pos rfl]
    exact hk
def perV (L : List Wh) : Int := bif yI L then pgF (spH (tI L)) (tI L).length else -1
def fldV (L : List Wh) : Int := bif yI L then pgF (dfH (tI L)) (tI L).length else -1
def FnmO (v : List Wh → Int) : List SA → Option FR
  | [.row m g] => some { val := .v (.int .i64 (v (listW (itW g) m))), obl := [allW m g, decide (m ≤ 2 ^ 38)] }
  | _ => none
theorem nm_fin {m : Nat} {g : Nat → List Value} {v : List Wh → Int} {x : Int} {ob : List Bool} {fn : Func} {Λ : Nat → Option Sum} (h1 : allW m g = true) (hm : m ≤ 2 ^ 38) {P : Prop} (c : P) (hob : P → obls ob = true) (h0 : yI (listW (itW g) m) = false → v (listW (itW g) m) = -1) (hx : yI (listW (itW g) m) = true → v (listW (itW g) m) = x)
    (ht : execF Tryz.prog (gmPt yI tI) Λ 100 fn [.sl 0 9 0 0 m none] (hpP1 m (itW g)) (packK 1) = needs [Nat.ble (0 + m) m, allW m fun q => row9 (itW g) (0 + q), decide (m ≤ 274877906944)] (bif !yI (listW (itW fun q => row9 (itW g) (0 + q)) m) then .out .ret [.v (i64 (-1))] [.row false m 9 (row9 (itW g)) 60] else needs ob (.out .ret [.v (i64 x)] [.row false m 9 (row9 (itW g)) 60]))) :
    GoodQ (execF Tryz.prog (gmPt yI tI) Λ 100 fn [.sl 0 9 0 0 m none] (hpP1 m (itW g)) (packK 1)) (GivR (abP md_ws [.row m g] []) { val := .v (.int .i64 (v (listW (itW g) m))), obl := [allW m g, decide (m ≤ 2 ^ 38)] }) := by
  rw [ht]
  simp only [row0, listW_itW]
  refine good_needs (by simp only [ob_cons, ob_nil, and_true, decide_eq_true_eq, Nat.ble_eq, allW_row, true_and]; omega) (good_cond (fun q => ?_) fun q => ?_)
  · have q2 : yI (listW (itW g) m) = false := by simpa using q
    exact good_out ⟨_, rfl, by rw [h0 q2], .cons (ABeq.row fun j hj => (allW_get h1 j hj).symm) .nil⟩
  · have q2 : yI (listW (itW g) m) = true := by simpa using q
    exact good_needs (hob c) (good_out ⟨_, rfl, by rw [hx q2], .cons (ABeq.row fun j hj => (allW_get h1 j hj).symm) .nil⟩)
theorem ok_peI : SpecOk Tryz.prog 25 (specR md_ws (FnmO perV)) := by
  refine specR_hr gmPt_ok Tryz.func25 rfl fun sas fr hF ho => ?_
  unfold FnmO at hF
  split at hF
  · rename_i m g
    cases hF
    simp only [ob_cons] at ho
    obtain ⟨h1, h2, _⟩ := ho
    have hm := of_decide_eq_true h2
    refine ⟨hpP1 m (itW g), _, 100, .cons (ABeq.row fun j hj => allW_get h1 j hj) .nil, lam1 (by kernel_rfl) (sumPI m (itW g) (tI (listW (itW g) m)) (tI_tidy _)), ?_⟩
    refine nm_fin h1 hm trivial (fun _ => ?_) (fun q => by rw [perV, q]; rfl) (fun q => by rw [perV, q]; rfl) (treePI yI tI m (itW g) _ _ _)
    simp only [row0, listW_itW, ob_cons, ob_nil, and_true]
    exact chk_of ⟨rfl, Hsim.refl _⟩
  · cases hF
theorem ok_foI : SpecOk Tryz.prog 24 (specR md_ws (FnmO fldV)) := by
  refine specR_hr gmPt_ok Tryz.func24 rfl fun sas fr hF ho => ?_
  unfold FnmO at hF
  split at hF
  · rename_i m g
    cases hF
    simp only [ob_cons] at ho
    obtain ⟨h1, h2, _⟩ := ho
    have hm := of_decide_eq_true h2
    refine ⟨hpP1 m (itW g), _, 100, .cons (ABeq.row fun j hj => allW_get h1 j hj) .nil, lam1 (by kernel_rfl) (sumQI m (itW g) (tI (listW (itW g) m)) (tI_tidy _)), ?_⟩
    refine nm_fin h1 hm trivial (fun _ => ?_) (fun q => by rw [fldV, q]; rfl) (fun q => by rw [fldV, q]; rfl) (treeQI yI tI m (itW g) _ _ _)
    simp only [row0, listW_itW, ob_cons, ob_nil, and_true]
    exact chk_of ⟨rfl, Hsim.refl _⟩
  · cases hF
end Go.Proofs.YtddhmidegldhdaaGreatDoor

/- meshes where teeth fit: its tree; fits at nil. No conditions. -/
namespace Go.Proofs.YtddhmidegldhdaaGreatDoor
open Go.RowKit
set_option maxRecDepth 100000

end Go.Proofs.YtddhmidegldhdaaGreatDoor

/- meshes where teeth fit: its word; gauss, tidied at two wheels; RingDesign's trees. No conditions. -/
namespace Go.Proofs.YtddhmidegldhdaaGreatDoor
open Go.RowKit
set_option maxRecDepth 100000

end Go.Proofs.YtddhmidegldhdaaGreatDoor

/- tidied at two wheels; RingDesign's trees, where teeth fit. No conditions. -/
namespace Go.Proofs.YtddhmidegldhdaaGreatDoor
open Go.RowKit
set_option maxRecDepth 100000

end Go.Proofs.YtddhmidegldhdaaGreatDoor

/- The program's RingDesign and RingCusps, where teeth fit: their words. No conditions. -/
namespace Go.Proofs.YtddhmidegldhdaaGreatDoor
open Go.RowKit
set_option maxRecDepth 100000

end Go.Proofs.YtddhmidegldhdaaGreatDoor

/- The program's RingDesign, where there is none: its word; both read as one. Conditions: errors.errorType is laid. -/
namespace Go.Proofs.YtddhmidegldhdaaGreatDoor
open Go.RowKit
set_option maxRecDepth 100000

end Go.Proofs.YtddhmidegldhdaaGreatDoor

/- The desk: in, out, show. Conditions: the rest's length. -/
namespace Go.Proofs.YtddhmidegldhdaaGreatDoor
open Go.RowKit Go.Shelf
set_option maxRecDepth 100000

theorem CPost.after {D : Nat} {L : List Wh} {r : Option (List Wh × List UInt8)} {w w1 : World} (f : Fr (nwM w) w w1) {e : Ending} {w' : World} (h : CPost D L r w1 e w') : CPost D L r w e w' :=
  ⟨(f.nwd (D := D)).trans (h.1.mono fun _ _ hk => hk.elim (fun x => .inl (Nat.le_trans f.size x)) .inr), h.2⟩
theorem CPost.die {D : Nat} {L : List Wh} {w w1 : World} (hd : Desk D L w) (f : Fr (nwM w) w w1) : CPost D L none w diesE w1 := ⟨f.nwd, rfl, hd.fr f⟩
theorem CPost.say {D : Nat} {L : List Wh} {w w1 : World} {t : List UInt8} (hd : Desk D L w) (hT : isTidy L) (f : Fr (nwM w) w w1) : CPost D L (some (L, t)) w (.returned (.string ⟨t.toArray⟩)) w1 := ⟨f.nwd, rfl, hd.fr f, hT⟩
theorem CPost.some_eq {D : Nat} {L T : List Wh} {t : List UInt8} {w w' : World} {e : Ending} (h : CPost D L (some (T, t)) w e w') : e = .returned (.string ⟨t.toArray⟩) ∧ CPost D L (some (T, t)) w (.returned (.string ⟨t.toArray⟩)) w' := by
  have := h.2.1
  exact ⟨this, h.1, rfl, h.2.2⟩
theorem CPost.none_eq {D : Nat} {L : List Wh} {w w' : World} {e : Ending} (h : CPost D L none w e w') : e = diesE ∧ CPost D L none w diesE w' := ⟨h.2.1, h.1, rfl, h.2.2⟩
theorem ob2 {a b : Bool} (ha : a = true) (hb : b = true) : obls [a, b] = true := by subst ha hb; rfl
end Go.Proofs.YtddhmidegldhdaaGreatDoor

/- Plain: the point and the fold of two wheels. No program, no conditions. -/
namespace Go.Proofs.YtddhmidegldhdaaGreatDoor
open Go.RowKit
set_option maxRecDepth 100000

abbrev rl (x : Int) : Cy := ⟨x, 0, 0, 0, 0, 0, 0, 0⟩
end Go.Proofs.YtddhmidegldhdaaGreatDoor

/- The desk: in, out, show. Conditions: tidy lists, the rest's length. -/
namespace Go.Proofs.YtddhmidegldhdaaGreatDoor
open Go.RowKit Go.Shelf
set_option maxRecDepth 100000

def CmdOk (f : FuncId) (S : List Wh → List UInt8 → Option (List Wh × List UInt8)) : Prop :=
  ∀ {D : Nat} {L : List Wh} (s : ByteArray) {w : World}, Desk D L w → TabOk (nwD w D) w → isTidy L → s.size ≤ 1000 → Calls Tryz.prog f #[.pointer (some ⟨D, 0, none⟩), .string s] w (CPost D L (S L s.data.toList) w)
def showQ (L : List Wh) (_ : List UInt8) : Option (List Wh × List UInt8) := some (L, (txV L).data.toList)
theorem tidy_12 {L : List Wh} (h : isTidy L) : L.length ≤ 12 := by
  have := tidy_okD h
  unfold okD at this
  rw [Bool.and_eq_true, decide_eq_true_eq] at this
  exact this.1
theorem calls_text {v : Value} {L : List Wh} {w : World} (hR : ReadsW w v L) (hT : isTidy L) (ht : TabOk (nwM w) w) : Calls Tryz.prog 14 #[v] w (VPost w (.tuple #[.string (txV L), .bool true])) := by
  have e : specR md_ws (FdtO txV yI) [.sl 0 9 0 0 L.length none] [.row false L.length 9 (row9 (wfun L)) 60] 1 = some { val := .tup [.v (.string (txV (meL L))), .v (.bool (yI (meL L)))], rd := [0], obl := Nat.ble (0 + L.length) L.length :: (obM L ++ []) } := rfl
  rw [meL_eq, yI_self hT] at e
  exact v_w ok_dtI [] hR e rfl (obM_ok (tidy_12 hT) _) rfl rfl ht
set_option maxHeartbeats 1000000 in
theorem cmd_show : CmdOk 99 showQ := fun {D L} s {w} hd ht hT _ => by
  have mixed := mixed
  obtain ⟨p, n, c, hD, hR⟩ := id hd
  have hx := calls_text hR hT ht.nw
  have c0 : w.cell? ⟨D, 0, none⟩ = some (.slice p n c) := by rw [cell_of_row w D 0 #[.slice p n c] _ (0, 0) hD]; rfl
  have e : (⟨(txV L).data.toList.toArray⟩ : ByteArray) = txV L := bytes_ext rfl
  have fin : ∀ w1, Fr (nwM w) w w1 → CPost D L (showQ L s.data.toList) w (.returned (.string (txV L))) w1 := fun w1 f => e ▸ CPost.say hd hT f
  clear ht hD hR e hT hd
  go_enter Tryz.func99, Tryz.ntmps99
  go_wp2_with (first | (go_at_call 14; refine hx.mono ?_; rintro e w1 ⟨rfl, h1⟩) | (go_at_call 157; refine (must_ok _).mono ?_; rintro e w2 ⟨rfl, rfl⟩))
  go_ret
  exact fin _ h1
end Go.Proofs.YtddhmidegldhdaaGreatDoor

/- The deferred function of answer: what it makes of a panic. No conditions. -/
namespace Go.Proofs.YtddhmidegldhdaaGreatDoor
open Go.RowKit Go.Shelf
set_option maxRecDepth 100000

abbrev malV : Value := .iface 130 (.agg #[])
theorem res107r (tmps : Array Value) (w : World) : (results Tryz.f107 tmps).run Tryz.prog w = .ok (.tuple #[]) w := by simp [results]
set_option maxHeartbeats 1000000 in
theorem catch_idle (p : Addr) (w : World) : CallsD Tryz.prog 107 #[.pointer (some p)] .returning w fun e u' w' => e = .returned (.tuple #[]) ∧ u' = .returning ∧ w' = w := by
  have mixed := mixed
  refine callsD_of_wpS Tryz.func107 rfl fun c₀ cs hu => ?_
  apply wpS_seq
  apply wpS_region
  simp [wpOpsS, go_sem, recoverD, hu, Tryz.ntmps107, Exit.thenS]
  apply wpS_of_wp
  go_wp2
  exact ⟨rfl, .returning, by cases c₀; simp at hu; subst hu; rfl, .tuple #[], res107r _ _, rfl, rfl, rfl⟩
theorem ta_mal (w : World) : (Instr.typeAssert malV 20 130 true).run Tryz.prog w = .ok (.tuple #[.agg #[], .bool true]) w := pureRun_run (by kernel_rfl) w
theorem ta_ref (w : World) : (Instr.typeAssert refV 20 130 true).run Tryz.prog w = .ok (.tuple #[.agg #[], .bool false]) w := pureRun_run (by kernel_rfl) w
theorem ta_ref2 (w : World) : (Instr.typeAssert refV 20 131 true).run Tryz.prog w = .ok (.tuple #[.agg #[], .bool true]) w := pureRun_run (by kernel_rfl) w
abbrev whatB : ByteArray := ⟨#[119, 104, 97, 116]⟩
abbrev noB : ByteArray := ⟨#[110, 111]⟩
set_option maxHeartbeats 2000000 in
theorem catch_mal (p : Addr) (x : Value) (older : List PanicEntry) (w : World) (hc : w.cell? p = some x) (hz : w.frozen? p = false) (hp : p.block < w.heap.size) :
    CallsD Tryz.prog 107 #[.pointer (some p)] (.panicking ({ v := malV, recovered := false } :: older)) w fun e u' w' => e = .returned (.tuple #[]) ∧ u' = .panicking ({ v := malV, recovered := true } :: older) ∧ ∃ o, w' = (w.alloc o).setCell p (.string whatB) := by
  have mixed := mixed
  have hc2 : ∀ o, (w.alloc o).cell? p = some x := fun o => (World.cell?_of_block (Below.heap_alloc w o _ hp)).trans hc
  have hz2 : ∀ o, (w.alloc o).frozen? p = false := fun o => (World.frozen?_of_block (Below.heap_alloc w o _ hp)).trans hz
  have ta := ta_mal
  refine callsD_of_wpS Tryz.func107 rfl fun c₀ cs hu => ?_
  apply wpS_seq
  apply wpS_region
  simp [wpOpsS, go_sem, recoverD, hu, Tryz.ntmps107, Exit.thenS]
  apply wpS_of_wp
  go_wp2
  refine ⟨rfl, _, rfl, .tuple #[], res107r _ _, rfl, rfl, _, rfl⟩
set_option maxHeartbeats 2000000 in
theorem catch_ref (p : Addr) (x : Value) (older : List PanicEntry) (w : World) (hc : w.cell? p = some x) (hz : w.frozen? p = false) (hp : p.block < w.heap.size) :
    CallsD Tryz.prog 107 #[.pointer (some p)] (.panicking ({ v := refV, recovered := false } :: older)) w fun e u' w' => e = .returned (.tuple #[]) ∧ u' = .panicking ({ v := refV, recovered := true } :: older) ∧ ∃ o, w' = (w.alloc o).setCell p (.string noB) := by
  have mixed := mixed
  have hc2 : ∀ o, (w.alloc o).cell? p = some x := fun o => (World.cell?_of_block (Below.heap_alloc w o _ hp)).trans hc
  have hz2 : ∀ o, (w.alloc o).frozen? p = false := fun o => (World.frozen?_of_block (Below.heap_alloc w o _ hp)).trans hz
  have ta := ta_ref
  have tb := ta_ref2
  refine callsD_of_wpS Tryz.func107 rfl fun c₀ cs hu => ?_
  apply wpS_seq
  apply wpS_region
  simp [wpOpsS, go_sem, recoverD, hu, Tryz.ntmps107, Exit.thenS]
  apply wpS_of_wp
  go_wp2
  refine ⟨rfl, _, rfl, .tuple #[], res107r _ _, rfl, rfl, _, rfl⟩
end Go.Proofs.YtddhmidegldhdaaGreatDoor
