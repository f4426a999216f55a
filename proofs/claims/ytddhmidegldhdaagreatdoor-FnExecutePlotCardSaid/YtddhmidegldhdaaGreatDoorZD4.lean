/- Execute: a session. Conditions: the lines' words are at hand; the length of what is printed. -/
import Derived.Test.YtddhmidegldhdaaGreatDoorZD0
import Derived.Test.YtddhmidegldhdaaGreatDoorZD1
import Derived.Test.YtddhmidegldhdaaGreatDoorZD2
import Derived.Test.YtddhmidegldhdaaGreatDoorZD3
import Derived.Test.YtddhmidegldhdaaGreatDoorRows
import Derived.WalkKit
import Derived.ProofKit
import Derived.OpenShut
import Derived.Carry
import Derived.Deep.Slices
import Derived.Laws.Strings
import Derived.LoopTactic
import Derived.Lib.ConvBytes
import Derived.Shelf.Small.Wraps
import Derived.OwnWalk
import Derived.Lib.ItoaLen
import Derived.LaidEql
import Derived.Stop.Asserts
import Derived.RowKitTokens
import Derived.Laws.OwnMore
import Derived.Below
import Derived.Tactics2
import Derived.Defers
import Derived.Recover
import Derived.Laws.Pointers
import Derived.Maps.OwnSet
import Derived.StringKeys
import Derived.Laws.EntriesVeiled
import Derived.WalkLawsBesides
import Derived.Shelf.Strings.BuilderK
/- The frame of a law with one slice as its argument: from what its run comes to to the given statement. Conditions: those that each theorem names. -/
namespace Go.Proofs.YtddhmidegldhdaaGreatDoor
open Go.ChangeShapes Go.WideShapes Go.ChangeAt Go.RowKit Go.Deep

theorem own : ownKnob Tryz.prog.godebug = none := by kernel_rfl
theorem laidOut : laidOutB Tryz.prog = true := by kernel_rfl

def SaysYes : Ex → List AV → List AB → Prop := fun _ l _ => l = [.v (.bool true)]

section
variable {H : Type} {enc : TypeId × Value → H} {P : Program}
theorem post_below {f : Func} {s : ChangeSpec} {apart fresh handsOn again : Bool} {W W' : World} {args : Array Value} {v : Value} {ds gs : List (DataW H)} {before pa pv : List MemPlace}
    (hW : DataW.Whole enc P f.params.toList s.vars apart W args.toList ds gs before)
    (hres : ∀ (b : Nat) (sp : Nat → Bool) (hd : Bool), DataW.TrodAll enc P W' b sp hd f.resultTypes.toList (v.resultList f.resultTypes.size) (s.fn H (ds ++ gs)).results [])
    (hargs : ∀ sp : Nat → Bool, (∀ p ∈ before, sp p.block = true) → DataW.TrodAll enc P W' 0 sp true f.params.toList args.toList (s.fn H (ds ++ gs)).args pa)
    (hvars : ∀ sp : Nat → Bool, (∀ p ∈ before, sp p.block = true) → DataW.TrodVars enc P W' sp s.vars (s.fn H (ds ++ gs)).vars pv)
    (hps : before = pa ++ pv) (hb : Below W.heap.size W W')
    (hok : ∀ (j : Nat) (t : TypeId) (r : Value), f.resultTypes[j]? = some t → (v.resultList f.resultTypes.size)[j]? = some r → Value.okWide P W' .any 0 t r) :
    s.post enc P f apart fresh handsOn again W args v W' := by
  have hlt : ∀ p ∈ before, p.block < W.heap.size := fun p hp => hW.lt p hp
  have hold : ∀ p ∈ before, (fun b => decide (b < W.heap.size)) p.block = true := fun p hp => by simpa using hlt p hp
  refine ⟨ds, gs, before, [], pa, pv, hW, hres _ _ _, hargs _ hold, hvars _ hold, World.keptBut_mono (fun p hp => ⟨hp, ?_⟩) (hb.frame (· ∈ before)), fun _ => ?_⟩
  · rw [hps, List.mem_append] at hp
    exact Or.inr hp
  · obtain ⟨_, _, _, _, _, hz, hn⟩ := hW
    refine ⟨hok, _, _, ([] ++ pa) ++ pv, ⟨[] ++ pa, pv, trodAll_append (hargs _ (fun _ _ => rfl)) (hres _ _ _), hvars _ (fun _ _ => rfl), rfl, ?_, ?_⟩, ?_⟩
    · intro b off hp
      have hin : MemPlace.cell b off ∈ before := by rw [hps]; simpa using hp
      rw [hb.frozen (hlt _ hin)]
      exact hz b off hin
    · intro ha
      have := hn ha
      rw [hps] at this
      simpa using this
    · intro p hp _
      rw [hps]
      simpa using hp

theorem arg_row {W : World} {base s : Nat} {t e : TypeId} {v : Value} {d : DataW H} {p : List MemPlace} (ht : P.underlying t = some (.slice e)) (hc : P.cellsOf e = s) (hs : 0 < s) (hv : Value.okWide P W .any base t v)
    (h : DataW.Trod enc P W 0 (fun _ => true) true t v d p) (row : (Nat → Int) → List Value) (ok : (Nat → Int) → Prop) (hrow : ∀ f, (row f).length = s ∧ ∀ x ∈ row f, x.oneCell' = true)
    (he : ∀ n cs x, cs.length = s → DataW.trod enc P W 0 (fun _ => true) true n e cs = some x → ∃ f, ok f ∧ cs = row f) (tt : TypeId) (htab : TabOk (fun k => W.heap.size ≤ k) W := by intro x hx; simp [tabG] at hx) :
    ∃ (m : Nat) (ν : Nu) (g : Nat → Nat → Int), m ≤ 9223372036854775807 ∧ (∀ j, j < m → ok (g j)) ∧ VR ν (.sl 0 s 0 0 m none) v ∧ RH (fun k => W.heap.size ≤ k) ν (fun b => ([AB.row false m s (fun j => row (g j)) tt] : List AB).getD b .gone) W ∧ ∀ i b, ν i = some b → i < 1 := by
  obtain ⟨pt, len, cap, rfl⟩ := okWide_slice ht hv
  obtain ⟨fuel, hf⟩ := h
  have empty : ∀ c, VR (fun _ => none) (.sl 0 s 0 0 0 none) (.slice pt 0 c) → ∃ (m : Nat) (ν : Nu) (g : Nat → Nat → Int), m ≤ 9223372036854775807 ∧ (∀ j, j < m → ok (g j)) ∧ VR ν (.sl 0 s 0 0 m none) (.slice pt 0 c) ∧ RH (fun k => W.heap.size ≤ k) ν (fun b => ([AB.row false m s (fun j => row (g j)) tt] : List AB).getD b .gone) W ∧ ∀ i b, ν i = some b → i < 1 := by
    intro c hvr
    refine ⟨0, fun _ => none, fun _ _ => 0, by omega, fun j hj => by omega, hvr, ⟨fun i => ?_, fun i j b b' _ _ _ h => by simp at h, fun i b _ h => by simp at h, (fun i b h => by simp at h), htab⟩, fun i b h => by simp at h⟩
    match i with
    | 0 => exact .inl ⟨rfl, rfl, rfl⟩
    | n + 1 => trivial
  rcases open_slice ht hf with ⟨h0, _⟩ | ⟨a, len', cap', m, n, D, Pl, hcs, hb, hl, hm, hmm, hx, hi⟩
  · simp only [Value.cells] at h0
    simp at h0
    obtain ⟨rfl, rfl, rfl⟩ := h0
    exact empty 0 (by simp only [VR]; exact ⟨none, 0, rfl, by simp, Nat.le_refl _, by omega⟩)
  · simp only [Value.cells] at hcs
    simp at hcs
    obtain ⟨rfl, rfl, rfl⟩ := hcs
    simp only [if_true] at hmm
    subst hmm
    unfold maxLen at hm
    by_cases hz : m = 0
    · subst hz
      have : len = 0 := by omega
      subst this
      exact empty 0 (by simp only [VR]; exact ⟨some a, 0, rfl, by simp, Nat.le_refl _, by omega⟩)
    · have cells : ∀ i, ∃ f, i < m → ok f ∧ ∀ k, k < s → W.cell? ((a.add (i * s)).add k) = (row f)[k]? := by
        intro i
        by_cases him : i < m
        · obtain ⟨cs', h1, h2⟩ := hi i him
          rw [hc] at h1
          obtain ⟨_, h3, h4⟩ := World.cells?_some h1
          obtain ⟨f, h5, h6⟩ := he n cs' _ h3 h2
          exact ⟨f, fun _ => ⟨h5, fun k hk => by rw [h4 k hk, h6]⟩⟩
        · exact ⟨fun _ => 0, fun h => absurd h him⟩
      have get : ∀ i k, i < m → k < s → ∃ x, (row (Classical.choose (cells i)))[k]? = some x := fun i k _ hk => by
        have := (hrow (Classical.choose (cells i))).1
        exact ⟨_, List.getElem?_eq_getElem (by omega)⟩
      obtain ⟨x0, hx0⟩ := get 0 0 (by omega) hs
      have c0 := ((Classical.choose_spec (cells 0)) (by omega)).2 0 hs
      rw [hx0, Nat.zero_mul] at c0
      have hspot : a.spot = none := by
        have := World.cell?_spot c0
        simpa [Addr.add] using this
      obtain ⟨bl, off, sp⟩ := a
      simp only at hspot
      subst hspot
      have e0 : ((⟨bl, off, none⟩ : Addr).add 0).add 0 = ⟨bl, off, none⟩ := by simp [Addr.add]
      rw [e0] at c0
      obtain ⟨o, ho⟩ : ∃ o, W.heap[bl]? = some o := by
        unfold World.cell? at c0
        split at c0
        · exact ⟨_, by assumption⟩
        · cases c0
      obtain ⟨l, t', fz, rfl⟩ : ∃ l t' fz, o = .cells (List.toArray l) t' fz := by
        unfold World.cell? at c0
        simp only [ho] at c0
        cases o with
        | cells c t' fz => exact ⟨c.toList, t', fz, by simp⟩
        | _ => cases c0
      refine ⟨len, fun i => if i = 0 then some ⟨bl, off, m⟩ else none, fun i => Classical.choose (cells i), by omega, fun j hj => ((Classical.choose_spec (cells j)) (by omega)).1, ?_, ⟨fun i => ?_, fun i j b b' hij hw _ h1 h2 => ?_, fun i b hw h1 => ?_, fun i b h1 => ?_, htab⟩, fun i b h1 => ?_⟩
      · simp only [VR]
        exact ⟨_, m, rfl, by simp, hl, fun _ => ⟨_, rfl, by simp⟩⟩
      · match i with
        | 0 =>
          refine .inr ⟨⟨bl, off, m⟩, l, t', fz, rfl, ho, fun h => by simp at h, hl, fun j hj => ⟨hrow _, fun k hk => ?_⟩⟩
          have := ((Classical.choose_spec (cells j)) (by omega)).2 k hk
          rw [← this]
          have e1 : ((⟨bl, off, none⟩ : Addr).add (j * s)).add k = ⟨bl, off + (j * s + k), none⟩ := by
            rw [addr_add, addr_add, Nat.add_assoc]
          rw [e1, cell_at ho]
        | n + 1 => trivial
      · match i with
        | 0 => simp [AB.wr] at hw
        | n + 1 => simp at h1
      · match i with
        | 0 => simp [AB.wr] at hw
        | n + 1 => simp at h1
      · match i with
        | 0 =>
          simp at h1
          subst h1
          exact (Array.getElem?_eq_some_iff.1 ho).1
        | n + 1 => simp at h1
      · match i with
        | 0 => omega
        | n + 1 => simp at h1
end

theorem yes_calls {Γ : Gam} (hΓ : GamOk Tryz.prog Γ) {Λ : Nat → Option Sum} {n : Nat} {f : FuncId} {fn : Func} {avs : List AV} {H : List AB} {ν : Nu} {vals : List Value} {w : World} (hf : Tryz.prog.funcs[f]? = some fn)
    (hL : ∀ c, fn.body = some c → LamOk Tryz.prog H.length Λ c) (h : GoodQ (execF Tryz.prog Γ Λ n fn avs H (packK H.length)) SaysYes) (hv : VRs ν avs vals) (hH : RH (fun k => w.heap.size ≤ k) ν (fun b => H.getD b .gone) w) (hdom : ∀ i b, ν i = some b → i < H.length) :
    Calls Tryz.prog f vals.toArray w fun e w' => e = .returned (.bool true) ∧ Below w.heap.size w w' := by
  refine (calls_pack hΓ mixed enters hf hL (fun k hk => hk) h.out hv hH hdom).mono ?_
  rintro e w' ⟨v, av, H', ν', rfl, hq, hvr, _, hfr, _⟩
  have : [av] = [AV.v (.bool true)] := hq
  simp only [List.cons.injEq, and_true] at this
  subst this
  simp only [VR] at hvr
  subst hvr
  exact ⟨rfl, ⟨hfr.os, hfr.tape, hfr.output, hfr.size, fun k hk => hfr.block k hk (by omega)⟩⟩

def okI (f : Nat → Int) : Prop := ∀ k, -9223372036854775808 ≤ f k ∧ f k ≤ 9223372036854775807

end Go.Proofs.YtddhmidegldhdaaGreatDoor

/- The abstract machine, 27: words for callees by their view, which may hand back what points to rows that are only read. Conditions: those of the table of callees. -/
namespace Go.Proofs.YtddhmidegldhdaaGreatDoor
open Go.RowKit

def bkK (keep : List Nat) (Hc : List AB) (base : Nat) : Nat → Option Nat := fun i => bif Nat.blt i keep.length then (bif (Hc.getD i .gone).live then keep[i]? else none) else some (base + (i - keep.length))

def fullB : List AB → List Bool
  | [] => []
  | .row false n _ _ _ :: l => decide (0 < n) :: fullB l
  | _ :: l => fullB l
theorem fullB_get : ∀ {H : List AB} {j n w : Nat} {g : Nat → List Value} {t : TypeId}, obls (fullB H) = true → H.getD j .gone = .row false n w g t → 0 < n
  | [], j, n, w, g, t, _, h => by simp at h
  | b :: H, 0, n, w, g, t, ho, h => by
    simp only [List.getD_cons_zero] at h
    subst h
    simp only [fullB, ob_cons, decide_eq_true_eq] at ho
    exact ho.1
  | b :: H, j + 1, n, w, g, t, ho, h => by
    simp only [List.getD_cons_succ] at h
    refine fullB_get (H := H) (j := j) ?_ h
    unfold fullB at ho
    split at ho
    · rename_i e; cases e
    · rename_i e; cases e; exact (ob_cons.1 ho).2
    · rename_i e; cases e; exact ho
theorem obls_app {a b : List Bool} : obls (a ++ b) = true ↔ obls a = true ∧ obls b = true := by
  simp [obls]

def specK (ros : List Bool) (F : List AV → List AB → Option HR) : Spec := fun avs H base =>
  match viewH ros avs H with
  | some q => match F q.2.1 q.2.2 with
    | some hr => match mapA (bkK q.1 q.2.2 base) hr.val, mapBs (bkK q.1 q.2.2 base) hr.out, mapBs (bkK q.1 q.2.2 base) hr.new with
      | some v, some ou, some nw => cond (Nat.beq hr.out.length q.2.2.length && hr.new.all AB.wr)
          (some { val := v, rd := q.1, put := putH q.1 q.2.2 ou, new := nw, obl := hr.obl ++ fullB q.2.2 }) none
      | _, _, _ => none
    | none => none
  | none => none

theorem specK_wk {f : FuncId} {fn : Func} {ros : List Bool} {F : List AV → List AB → Option HR} (hf : Tryz.prog.funcs[f]? = some fn) (hb : fn.body.isSome = true)
    (h : ∀ avs H hr, F avs H = some hr → obls hr.obl = true → ∃ (Γ : Gam) (H0 : List AB) (Λ : Nat → Option Sum) (n : Nat), GamOk Tryz.prog Γ ∧ Hsim H H0 ∧ (∀ c, fn.body = some c → LamOk Tryz.prog H0.length Λ c) ∧ GoodQ (execF Tryz.prog Γ Λ n fn avs H0 (packK H0.length)) (GivW hr)) : SpecOk Tryz.prog f (specK ros F) := by
  refine ⟨fun args w => enters f fn hf hb args w, fun avs H base δ ν vals w hS ho hv hbr hlt hfree hsep htab => ?_⟩
  unfold specK at hS
  split at hS
  case h_2 => cases hS
  rename_i q hq
  split at hS
  case h_2 => cases hS
  rename_i hr hF
  split at hS
  case h_2 => cases hS
  rename_i v ou nw hval hou hnw
  cases hck : (Nat.beq hr.out.length q.2.2.length && hr.new.all AB.wr) with
  | false => rw [hck] at hS; cases hS
  | true =>
  rw [hck] at hS
  simp only [cond_true, Option.some.injEq] at hS
  subst hS
  rw [Bool.and_eq_true] at hck
  have hlen := Nat.eq_of_beq_eq_true hck.1
  have hnewwr := List.all_eq_true.1 hck.2
  unfold viewH at hq
  generalize reach H 400 [] (idxAs avs) = keep at *
  split at hq
  case h_2 => cases hq
  rename_i avs' H1 hra hrb
  cases hnd : nodupB keep with
  | false => rw [hnd] at hq; cases hq
  | true =>
  rw [hnd] at hq
  simp only [cond_true, Option.some.injEq] at hq
  subst hq
  simp only at hval hou hnw hF hlen hbr hsep ho hfree ⊢
  rw [obls_app] at ho
  obtain ⟨ho, hof⟩ := ho
  obtain ⟨hl1, hg1⟩ := renBs_get hrb
  have hlHc : (roL ros H1).length = keep.length := by rw [roL_length, hl1]
  have nuAt : ∀ {j i}, keep[j]? = some i → keepNu keep ν j = ν i := fun hj => by simp [keepNu, hj]
  have ofNu : ∀ {j b}, keepNu keep ν j = some b → ∃ i, keep[j]? = some i ∧ ν i = some b := by
    intro j b hb
    unfold keepNu at hb
    split at hb
    · rename_i i hi; exact ⟨i, hi, hb⟩
    · cases hb
  have ren_marks : ∀ {b b' : AB}, renB keep b = some b' → b'.wr = b.wr ∧ b'.live = b.live := by
    intro b b' hb
    cases b with
    | cells cs t => simp only [renB, Option.map_eq_some_iff] at hb; obtain ⟨q, _, rfl⟩ := hb; exact ⟨rfl, rfl⟩
    | row => simp only [renB, Option.some.injEq] at hb; subst hb; exact ⟨rfl, rfl⟩
    | gone => simp only [renB, Option.some.injEq] at hb; subst hb; exact ⟨rfl, rfl⟩
  -- the callee's block j is the caller's block keep j
  have view : ∀ {j i}, keep[j]? = some i → ∃ b1, H1[j]? = some b1 ∧ renB keep (H.getD i .gone) = some b1 ∧ (roL ros H1)[j]? = some (roB (ros.getD j false) b1) := by
    intro j i hj
    obtain ⟨b1, e1, e2⟩ := hg1 j i hj
    exact ⟨b1, e1, e2, by rw [roL_get, e1]; rfl⟩
  have wrOf : ∀ {j i}, keep[j]? = some i → ((roL ros H1).getD j .gone).wr = true → (H.getD i .gone).wr = true := by
    intro j i hj hw
    obtain ⟨b1, _, e2, e3⟩ := view hj
    have : (roL ros H1).getD j .gone = roB (ros.getD j false) b1 := by simp [List.getD_eq_getElem?_getD, e3]
    rw [this] at hw
    rw [← (ren_marks e2).1]
    exact roB_wr hw
  have liveOf : ∀ {j i}, keep[j]? = some i → ((roL ros H1).getD j .gone).live = true → (H.getD i .gone).live = true := by
    intro j i hj hw
    obtain ⟨b1, _, e2, e3⟩ := view hj
    have : (roL ros H1).getD j .gone = roB (ros.getD j false) b1 := by simp [List.getD_eq_getElem?_getD, e3]
    rw [this, roB_live] at hw
    rw [← (ren_marks e2).2]
    exact hw
  obtain ⟨hlo, hgo⟩ := mapBs_get hou
  obtain ⟨hln, hgn⟩ := mapBs_get hnw
  have inPut : ∀ {j i}, keep[j]? = some i → ((roL ros H1).getD j .gone).wr = true → ∃ o o', hr.out[j]? = some o ∧ ou[j]? = some o' ∧ mapB (bkK keep (roL ros H1) base) o = some o' ∧ (i, o') ∈ putH keep (roL ros H1) ou := by
    intro j i hj hw
    have hjl : j < keep.length := (List.getElem?_eq_some_iff.1 hj).1
    have ho : hr.out[j]? = some (hr.out[j]'(by omega)) := List.getElem?_eq_getElem _
    obtain ⟨o', e1, e2⟩ := hgo j _ ho
    have hh : (roL ros H1)[j]? = some ((roL ros H1)[j]'(by omega)) := List.getElem?_eq_getElem _
    refine ⟨_, o', ho, e1, e2, putH_of hj hh e1 ?_⟩
    have : (roL ros H1).getD j .gone = (roL ros H1)[j]'(by omega) := by simp [List.getD_eq_getElem?_getD, hh]
    rw [← this]; exact hw
  let M : Nat → Prop := fun k => w.heap.size ≤ k ∨ ∃ j b, ((roL ros H1).getD j .gone).wr = true ∧ keepNu keep ν j = some b ∧ b.n = k
  have hRH : RH M (keepNu keep ν) (fun b => (roL ros H1).getD b .gone) w := by
    refine ⟨fun j => ?_, fun i j b b' hne hw hlv hb hb' => ?_, fun i b hw hb => .inr ⟨i, b, hw, hb, rfl⟩, fun i b hb => ?_, htab.mono ?_⟩
    · cases hj : keep[j]? with
      | none =>
        have : (roL ros H1).getD j .gone = .gone := by
          rw [List.getD_eq_getElem?_getD, List.getElem?_eq_none]
          · rfl
          · rw [hlHc]
            exact List.getElem?_eq_none_iff.1 hj
        simp only [this]
        trivial
      | some i =>
        obtain ⟨b1, e1, e2, e3⟩ := view hj
        have : (roL ros H1).getD j .gone = roB (ros.getD j false) b1 := by simp [List.getD_eq_getElem?_getD, e3]
        simp only [this]
        refine roB_br ?_
        have hbi := hbr i (List.mem_of_getElem? hj)
        have hν := nuAt hj
        cases hi : H.getD i .gone with
        | cells cs t =>
          rw [hi] at e2 hbi
          simp only [renB, Option.map_eq_some_iff] at e2
          obtain ⟨cs', h1, h2⟩ := e2
          rw [← h2]
          obtain ⟨b, l, g1, g2, g3, g4⟩ := hbi
          exact ⟨b, l, by rw [hν]; exact g1, g2, g3, g4.ren h1⟩
        | row rw' n wd g t =>
          rw [hi] at e2 hbi
          simp only [renB, Option.some.injEq] at e2
          rw [← e2]
          rcases hbi with ⟨g1, g2, g3⟩ | ⟨b, l, t', fz, g1, g2⟩
          · exact .inl ⟨g1, g2, by rw [hν]; exact g3⟩
          · exact .inr ⟨b, l, t', fz, by rw [hν]; exact g1, g2⟩
        | gone =>
          rw [hi] at e2
          simp only [renB, Option.some.injEq] at e2
          rw [← e2]
          trivial
    · obtain ⟨i', hi, e1⟩ := ofNu hb
      obtain ⟨j', hj, e2⟩ := ofNu hb'
      obtain ⟨_, o', _, _, _, hp⟩ := inPut hi hw
      refine hsep i' o' j' b b' hp (List.mem_of_getElem? hj) (fun e => ?_) (liveOf hj hlv) e1 e2
      subst e
      exact hne (nodupB_ne hnd i j i' hi hj)
    · obtain ⟨i', _, e1⟩ := ofNu hb
      exact hlt i' b e1
    · rintro k _ (hk | ⟨j, b, hw, hb, rfl⟩)
      · exact .inl hk
      · obtain ⟨i', hi, e1⟩ := ofNu hb
        obtain ⟨_, o', _, _, _, hp⟩ := inPut hi hw
        exact .inr ⟨i', b, _, hp, e1, rfl⟩
  obtain ⟨Γ, H0, Λ, n, hΓ, hsim, hL, hG⟩ := h avs' (roL ros H1) hr hF ho
  have hl0 : H0.length = keep.length := by rw [← hsim.length, hlHc]
  have hdom0 : ∀ i b, keepNu keep ν i = some b → i < H0.length := by
    intro i b hb
    obtain ⟨i', hi, _⟩ := ofNu hb
    rw [hl0]
    exact (List.getElem?_eq_some_iff.1 hi).1
  refine (calls_pack hΓ mixed enters hf hL (fun k hk => Or.inl hk) hG.out (hv.ren hra) (hRH.sim hsim) hdom0).mono ?_
  rintro e w' ⟨vv, av, He, ν', rfl, ⟨av2, hav, hwk, hHe⟩, hvr, hRH', hfr, hle, hdom'⟩
  simp only [List.cons.injEq, and_true] at hav
  subst hav
  have hvr := hwk _ _ _ _ hRH' hvr
  have hRH2 := hRH'.sim hHe
  have hHl : He.length = keep.length + hr.new.length := by rw [hHe.length, List.length_append, hlen, hlHc]
  -- a block that may be written has a place
  have wrNu : ∀ {j : Nat}, ((roL ros H1).getD j .gone).wr = true → ∃ b, keepNu keep ν j = some b := by
    intro j hw
    have : BR (keepNu keep ν) j ((roL ros H1).getD j .gone) w := hRH.br j
    cases hb : (roL ros H1).getD j .gone with
    | cells cs t => rw [hb] at this; obtain ⟨b, l, e1, _⟩ := this; exact ⟨b, e1⟩
    | row rw' n wd g t =>
      rw [hb] at this hw
      rcases this with ⟨e1, _⟩ | ⟨b, l, t', fz, e1, _⟩
      · simp only [AB.wr] at hw
        rw [e1] at hw
        cases hw
      · exact ⟨b, e1⟩
    | gone => rw [hb] at hw; cases hw
  have liveNu : ∀ {j : Nat}, ((roL ros H1).getD j .gone).live = true → ∃ b, keepNu keep ν j = some b := by
    intro j hw
    have : BR (keepNu keep ν) j ((roL ros H1).getD j .gone) w := hRH.br j
    cases hb : (roL ros H1).getD j .gone with
    | cells cs t => rw [hb] at this; obtain ⟨b, l, e1, _⟩ := this; exact ⟨b, e1⟩
    | row rw' n wd g t =>
      rw [hb] at this
      rcases this with ⟨e1, e2, _⟩ | ⟨b, l, t', fz, e1, _⟩
      · subst e1
        have := fullB_get hof hb
        omega
      · exact ⟨b, e1⟩
    | gone => rw [hb] at hw; cases hw
  let ν2 : Nu := fun i => match ν i with
    | some b => some b
    | none => if base ≤ i ∧ i < base + nw.length then ν' (keep.length + (i - base)) else none
  have n2old : ∀ {i b}, ν i = some b → ν2 i = some b := fun {i b} h => by simp only [ν2, h]
  have n2new : ∀ {j : Nat}, j < nw.length → ν2 (base + j) = ν' (keep.length + j) := fun {j} hj => by
    have h0 := hfree j hj
    have h1 : ν2 (base + j) = if base ≤ base + j ∧ base + j < base + nw.length then ν' (keep.length + (base + j - base)) else none := by
      show (match ν (base + j) with | some b => some b | none => if base ≤ base + j ∧ base + j < base + nw.length then ν' (keep.length + (base + j - base)) else none) = _
      rw [h0]
    rw [h1, if_pos ⟨by omega, by omega⟩, Nat.add_sub_cancel_left]
  have mp : ∀ i i' b, bkK keep (roL ros H1) base i = some i' → ν' i = some b → ν2 i' = some b := by
    intro i i' b h1 h2
    unfold bkK at h1
    cases hc : Nat.blt i keep.length with
    | true =>
      rw [hc, cond_true] at h1
      cases hw : ((roL ros H1).getD i .gone).live with
      | false => rw [hw] at h1; cases h1
      | true =>
        rw [hw, cond_true] at h1
        obtain ⟨b0, hb0⟩ := liveNu hw
        have := hle _ _ hb0
        rw [h2] at this
        cases this
        rw [nuAt h1] at hb0
        exact n2old hb0
    | false =>
      rw [hc, cond_false, Option.some.injEq] at h1
      subst h1
      have hge : ¬ i < keep.length := fun hl => by rw [← Nat.blt_eq] at hl; rw [hl] at hc; cases hc
      have hd := hdom' i b h2
      have e : i = keep.length + (i - keep.length) := by omega
      rw [n2new (by rw [hln]; omega), ← e]
      exact h2
  have outBR : ∀ {j : Nat} {o : AB}, hr.out[j]? = some o → BR ν' j o w' := by
    intro j o hj
    have := hRH2.br j
    have hjl : j < hr.out.length := (List.getElem?_eq_some_iff.1 hj).1
    simp only [List.getD_eq_getElem?_getD, List.getElem?_append_left hjl, hj, Option.getD_some] at this
    exact this
  have newAt : ∀ {j : Nat} {o : AB}, hr.new[j]? = some o → (hr.out ++ hr.new).getD (keep.length + j) .gone = o := by
    intro j o hj
    rw [List.getD_eq_getElem?_getD, List.getElem?_append_right (by omega)]
    have : keep.length + j - hr.out.length = j := by omega
    rw [this, hj]
    rfl
  refine ⟨vv, ν2, rfl, ⟨fun i b hb => n2old hb, fun i h1 h2 => ?_, hvr.map mp hval, fun i b hl => ?_, fun j b hj => ?_, hfr.os, hfr.tape, hfr.output, hfr.size, fun k hk hne => ?_, fun j b hj hb => ?_, fun j j' b b' hne hj hj' hb hb' => ?_⟩⟩
  · simp only [ν2, h1] at h2
    split at h2
    · assumption
    · exact (h2 rfl).elim
  · obtain ⟨j, hh, e1, e2, e3, e4⟩ := putH_mem (lookB_mem hl)
    have hw : ((roL ros H1).getD j .gone).wr = true := by simp only [List.getD_eq_getElem?_getD, e2, Option.getD_some]; exact e4
    obtain ⟨o, o', g1, g2, g3, _⟩ := inPut e1 hw
    rw [e3] at g2
    cases g2
    obtain ⟨b0, hb0⟩ := wrNu hw
    have e5 : ν2 i = ν' j := by
      rw [hle _ _ hb0]
      rw [nuAt e1] at hb0
      exact n2old hb0
    exact (outBR g1).map mp e5 g3
  · have hjl : j < nw.length := (List.getElem?_eq_some_iff.1 hj).1
    have hn : hr.new[j]? = some (hr.new[j]'(by omega)) := List.getElem?_eq_getElem _
    obtain ⟨b', e1, e2⟩ := hgn j _ hn
    rw [hj] at e1
    cases e1
    have : BR ν' (keep.length + j) ((hr.out ++ hr.new).getD (keep.length + j) .gone) w' := hRH2.br (keep.length + j)
    rw [newAt hn] at this
    exact this.map mp (n2new hjl) e2
  · refine hfr.block k hk fun hM => ?_
    rcases hM with hM | ⟨j, b, hw, hb, e⟩
    · omega
    · obtain ⟨i, hi, e1⟩ := ofNu hb
      obtain ⟨_, o', _, _, _, hp⟩ := inPut hi hw
      exact hne _ b hp e1 e
  · have hj : j < nw.length := hj
    rw [n2new hj] at hb
    refine ⟨hRH2.lt _ _ hb, ?_⟩
    have hn : hr.new[j]? = some (hr.new[j]'(by omega)) := List.getElem?_eq_getElem _
    have hwn : ((hr.out ++ hr.new).getD (keep.length + j) .gone).wr = true := by
      rw [newAt hn]
      exact hnewwr _ (List.mem_of_getElem? hn)
    rcases hRH2.own _ b hwn hb with hM | ⟨i, b0, hw, hb0, e⟩
    · exact .inl hM
    · right
      obtain ⟨i', hi, e1⟩ := ofNu hb0
      obtain ⟨o, o', g1, g2, g3, hp⟩ := inPut hi hw
      obtain ⟨o2, hl2⟩ := lookB_of hp
      refine ⟨i', b0, ?_, e1, e⟩
      have hil : i < keep.length := (List.getElem?_eq_some_iff.1 hi).1
      have hgone : o = .gone := by
        cases hlv : o.live with
        | false => cases o <;> first | rfl | cases hlv
        | true =>
          have e3 : (hr.out ++ hr.new).getD i .gone = o := by
            rw [List.getD_eq_getElem?_getD, List.getElem?_append_left (by omega), g1]
            rfl
          exact (hRH2.sep (keep.length + j) i b b0 (by omega) hwn (by rw [e3]; exact hlv) hb (hle _ _ hb0) e.symm).elim
      subst hgone
      have ho' := (mapB_marks g3).2.2 rfl
      subst ho'
      obtain ⟨j2, h2, f1, f2, f3, f4⟩ := putH_mem (lookB_mem hl2)
      have : j2 = i := nodupB_ne hnd j2 i i' f1 hi
      subst this
      rw [g2] at f3
      cases f3
      exact hl2
  · have hj : j < nw.length := hj
    have hj' : j' < nw.length := hj'
    rw [n2new hj] at hb
    rw [n2new hj'] at hb'
    have hn : hr.new[j]? = some (hr.new[j]'(by omega)) := List.getElem?_eq_getElem _
    have hn' : hr.new[j']? = some (hr.new[j']'(by omega)) := List.getElem?_eq_getElem _
    have w1 : ((hr.out ++ hr.new).getD (keep.length + j) .gone).wr = true := by
      rw [newAt hn]
      exact hnewwr _ (List.mem_of_getElem? hn)
    have w2 : ((hr.out ++ hr.new).getD (keep.length + j') .gone).live = true := by
      rw [newAt hn']
      have := hnewwr _ (List.mem_of_getElem? hn')
      revert this
      cases hr.new[j']'(by omega) <;> simp [AB.wr, AB.live]
    exact hRH2.sep (keep.length + j) (keep.length + j') b b' (by omega) w1 w2 hb hb'

theorem specK_okG {f : FuncId} {fn : Func} {ros : List Bool} {F : List AV → List AB → Option HR} (hf : Tryz.prog.funcs[f]? = some fn) (hb : fn.body.isSome = true)
    (h : ∀ avs H hr, F avs H = some hr → obls hr.obl = true → ∃ (Γ : Gam) (H0 : List AB) (Λ : Nat → Option Sum) (n : Nat), GamOk Tryz.prog Γ ∧ Hsim H H0 ∧ (∀ c, fn.body = some c → LamOk Tryz.prog H0.length Λ c) ∧ GoodQ (execF Tryz.prog Γ Λ n fn avs H0 (packK H0.length)) (GivH hr)) : SpecOk Tryz.prog f (specK ros F) :=
  specK_wk hf hb fun avs H hr hF ho => by
    obtain ⟨Γ, H0, Λ, n, h0, h1, h2, h3⟩ := h avs H hr hF ho
    exact ⟨Γ, H0, Λ, n, h0, h1, h2, ⟨res_mono (fun e l He ⟨h4, h5⟩ => ⟨_, h4, fun _ _ _ _ _ hv => hv, h5⟩) h3.out⟩⟩
theorem specK_ok {Γ : Gam} (hΓ : GamOk Tryz.prog Γ) {f : FuncId} {fn : Func} {ros : List Bool} {F : List AV → List AB → Option HR} (hf : Tryz.prog.funcs[f]? = some fn) (hb : fn.body.isSome = true)
    (h : ∀ avs H hr, F avs H = some hr → obls hr.obl = true → ∃ (H0 : List AB) (Λ : Nat → Option Sum) (n : Nat), Hsim H H0 ∧ (∀ c, fn.body = some c → LamOk Tryz.prog H0.length Λ c) ∧ GoodQ (execF Tryz.prog Γ Λ n fn avs H0 (packK H0.length)) (GivH hr)) : SpecOk Tryz.prog f (specK ros F) :=
  specK_okG hf hb fun avs H hr hF ho => let ⟨H0, Λ, n, h1, h2, h3⟩ := h avs H hr hF ho; ⟨Γ, H0, Λ, n, hΓ, h1, h2, h3⟩

end Go.Proofs.YtddhmidegldhdaaGreatDoor

/- A reader of bytes: pick, its tree. -/
namespace Go.Proofs.YtddhmidegldhdaaGreatDoor
open Go.RowKit
set_option maxRecDepth 100000

abbrev rowB (b : Nat → Int) : Nat → List Value := fun j => [.int .u8 (b j)]
abbrev hpRd (l : Nat) (c : Option Nat) (p : Int) (m : Nat) (b : Nat → Int) (tr tb : TypeId) : List AB := [.cells [.sl 1 1 0 0 l c, .v (i64 p)] tr, .row false m 1 (rowB b) tb]
theorem treePk_h (l : Nat) (c : Option Nat) (p : Int) (m : Nat) (b : Nat → Int) (tr tb : TypeId) (n : Int) (u0 : _) (hu0 : (IntKind.wrap .i64 (p + (1 : Int)) - (1 : Int)) = u0) (u3 : _) (hu3 : (IntKind.wrap .i64 (IntKind.wrap .i64 (IntKind.wrap .i64 u0 * (7 : Int)) + (3 : Int))) = u3) (u4 : _) (hu4 : (IntKind.wrap .i64 u0) = u4) (u5 : _) (hu5 : (↑l : Int) = u5) (u6 : _) (hu6 : (0 : Int) = u6) (u7 : _) (hu7 : (0 : Nat) = u7) (u1 : _) (hu1 : (IntKind.wrap .i64 (IntKind.wrap .i64 (IntKind.wrap .i64 (IntKind.wrap .i64 (IntKind.wrap .i64 (b (u7 + Int.toNat (Int.tmod u4 u5))) * (131 : Int)) + IntKind.wrap .i64 (IntKind.wrap .i64 (b (u7 + Int.toNat (Int.tmod u3 u5))) * (1117 : Int))) + IntKind.wrap .i64 (IntKind.wrap .i64 u0 * (29 : Int))) + IntKind.wrap .i64 (IntKind.wrap .i64 (Int.tdiv u4 u5) * (53 : Int)))) = u1) (u2 : _) (hu2 : [AB.cells [AV.sl 1 (1 : Nat) u7 u7 l c, AV.v (.int .i64 (IntKind.wrap .i64 (p + (1 : Int))))] tr, AB.row false m 1 (rowB b) tb] = u2) : execF Tryz.prog g0 noLam 100 Tryz.f32 [.ptr 0 0 0 0, .v (i64 n)] (hpRd l c p m b tr tb) (packK 2)
    = bif decide (n < (1 : Int)) then Res.out .ret [AV.v (.int .i64 u6)] u2 else bif u5 == u6 then Res.out .ret [AV.v (.int .i64 u6)] u2 else bif decide (IntKind.wrap .i64 u0 < u5) then needs [decide (u6 ≤ IntKind.wrap .i64 u0), decide (IntKind.wrap .i64 u0 < u5), decide (u7 + Int.toNat u4 < m), !decide (n = u6)] (Res.out .ret [AV.v (.int .i64 (Int.tmod (IntKind.wrap .i64 (b (u7 + Int.toNat u4))) n))] u2) else needs [!decide (u5 = u6), decide (u6 ≤ Int.tmod u4 u5), decide (Int.tmod u4 u5 < u5), decide (u7 + Int.toNat (Int.tmod u4 u5) < m), !decide (u5 = u6), decide (u6 ≤ Int.tmod u3 u5), decide (Int.tmod u3 u5 < u5), decide (u7 + Int.toNat (Int.tmod u3 u5) < m), !decide (u5 = u6), !decide (n = u6)] (Res.out .ret [AV.v (.int .i64 (Int.tmod (IntKind.wrap .i64 (↑(BitVec.toNat (BitVec.ofInt (64 : Nat) u1 ^^^ BitVec.ofInt (64 : Nat) (IntKind.wrap .i64 (Int.tdiv u1 (64 : Int))))) : Int)) n))] u2) := by
  subst hu2 hu1 hu7 hu6 hu5 hu4 hu3 hu0
  kernel_rfl
theorem treePk (l : Nat) (c : Option Nat) (p : Int) (m : Nat) (b : Nat → Int) (tr tb : TypeId) (n : Int) : type_of% (treePk_h l c p m b tr tb n _ rfl _ rfl _ rfl _ rfl _ rfl _ rfl _ rfl _ rfl) := treePk_h l c p m b tr tb n _ rfl _ rfl _ rfl _ rfl _ rfl _ rfl _ rfl _ rfl

end Go.Proofs.YtddhmidegldhdaaGreatDoor

/- A reader of bytes: what pick returns. Conditions: bytes; the reader's place is at most 2^30. -/
namespace Go.Proofs.YtddhmidegldhdaaGreatDoor
open Go.RowKit
set_option maxRecDepth 100000

def isB : List Value → Bool
  | [.int .u8 x] => inR x 0 255
  | _ => false
def u8Qv : Value → Int
  | .int .u8 x => x
  | _ => 0
def itB (g : Nat → List Value) : Nat → Int := fun j => u8Qv ((g j).getD 0 undef)
def okB (m : Nat) (g : Nat → List Value) : Bool := (List.range m).all fun j => isB (g j)
theorem okB_get {m : Nat} {g : Nat → List Value} (h : okB m g = true) {j : Nat} (hj : j < m) : g j = rowB (itB g) j ∧ 0 ≤ itB g j ∧ itB g j ≤ 255 := by
  have h1 := List.all_eq_true.1 h j (by simpa using hj)
  unfold isB at h1
  unfold rowB itB
  split at h1
  · rename_i x e
    rw [e]
    have e2 : u8Qv ([Value.int .u8 x].getD 0 undef) = x := rfl
    rw [e2]
    unfold inR at h1
    simp only [Bool.and_eq_true, decide_eq_true_eq] at h1
    exact ⟨rfl, h1.1, h1.2⟩
  · cases h1
theorem itB_row (b : Nat → Int) : itB (rowB b) = b := rfl

def pkX (l : Nat) (b : Nat → Int) (p : Int) : Int :=
  W (W (W (W (W (b (0 + (Int.tmod p l).toNat)) * 131) + W (W (b (0 + (Int.tmod (W (W (p * 7) + 3)) l).toNat)) * 1117)) + W (p * 29)) + W (W (Int.tdiv p l) * 53))
def pkY (x : Int) : Int := W ((BitVec.ofInt 64 x ^^^ BitVec.ofInt 64 (W (Int.tdiv x 64))).toNat)
def pkR (l : Nat) (b : Nat → Int) (p n : Int) : Int :=
  bif decide (n < 1) then 0 else bif (l : Int) == 0 then 0 else bif decide (p < l) then Int.tmod (W (b (0 + p.toNat))) n else Int.tmod (pkY (pkX l b p)) n
def pkV (l : Nat) (b : Nat → Int) (p n : Int) : Int := if 0 ≤ pkR l b p n ∧ pkR l b p n < n then pkR l b p n else 0
theorem pkV_nn (l : Nat) (b : Nat → Int) (p n : Int) : 0 ≤ pkV l b p n := by unfold pkV; split <;> omega
theorem pkV_lt (l : Nat) (b : Nat → Int) (p : Int) {n : Int} (h : 1 ≤ n) : pkV l b p n < n := by unfold pkV; split <;> omega
theorem pkY_nn {x : Int} (h0 : 0 ≤ x) (h1 : x < 2 ^ 62) : 0 ≤ pkY x := by
  unfold pkY
  have e : W (Int.tdiv x 64) = x / 64 := by
    rw [Int.tdiv_eq_ediv_of_nonneg h0]
    exact w64_in (by omega) (by omega)
  rw [e, BitVec.toNat_xor, BitVec.toNat_ofInt, BitVec.toNat_ofInt]
  have : (x % (2 ^ 64 : Nat)).toNat ^^^ (x / 64 % (2 ^ 64 : Nat)).toNat < 2 ^ 62 := Nat.xor_lt_two_pow (by omega) (by omega)
  rw [w64_in (by omega) (by omega)]
  omega
theorem tmod_in {x : Int} {l : Nat} (h : 0 ≤ x) (hl : l ≠ 0) : 0 ≤ Int.tmod x l ∧ Int.tmod x l < l := by
  have : (0 : Int) < l := by omega
  exact ⟨Int.tmod_nonneg _ h, Int.tmod_lt_of_pos _ this⟩
theorem pkX_in {l m : Nat} {b : Nat → Int} {p : Int} (hb : ∀ j, j < m → 0 ≤ b j ∧ b j ≤ 255) (hl : l ≤ m) (hl0 : l ≠ 0) (h0 : 0 ≤ p) (h1 : p ≤ 2 ^ 30) : 0 ≤ pkX l b p ∧ pkX l b p < 2 ^ 62 := by
  have a1 := tmod_in h0 hl0
  have e1 : W (W (p * 7) + 3) = p * 7 + 3 := by rw [w64_in (x := p * 7) (by omega) (by omega), w64_in (by omega) (by omega)]
  have a2 := tmod_in (x := p * 7 + 3) (by omega) hl0
  have b1 := hb (0 + (Int.tmod p l).toNat) (by omega)
  have b2 := hb (0 + (Int.tmod (p * 7 + 3) l).toNat) (by omega)
  have a3 : 0 ≤ Int.tdiv p l := Int.tdiv_nonneg h0 (by omega)
  have a4 : Int.tdiv p l ≤ p := by
    rw [Int.tdiv_eq_ediv_of_nonneg h0]
    exact Int.ediv_le_self _ h0
  unfold pkX
  rw [e1]
  generalize b (0 + (Int.tmod p l).toNat) = x1 at b1
  generalize b (0 + (Int.tmod (p * 7 + 3) l).toNat) = x2 at b2
  generalize Int.tdiv p l = x3 at a3 a4
  rw [w64_in (x := x1) (by omega) (by omega), w64_in (x := x2) (by omega) (by omega), w64_in (x := x3) (by omega) (by omega), w64_in (x := x1 * 131) (by omega) (by omega), w64_in (x := x2 * 1117) (by omega) (by omega), w64_in (x := x3 * 53) (by omega) (by omega), w64_in (x := p * 29) (by omega) (by omega), w64_in (x := x1 * 131 + x2 * 1117) (by omega) (by omega), w64_in (x := x1 * 131 + x2 * 1117 + p * 29) (by omega) (by omega), w64_in (by omega) (by omega)]
  omega
theorem pkV_eq {l m : Nat} {b : Nat → Int} {p n : Int} (hb : ∀ j, j < m → 0 ≤ b j ∧ b j ≤ 255) (hl : l ≤ m) (h0 : 0 ≤ p) (h1 : p ≤ 2 ^ 30) : pkV l b p n = pkR l b p n := by
  have : pkR l b p n = 0 ∨ 0 ≤ pkR l b p n ∧ pkR l b p n < n := by
    unfold pkR
    by_cases c1 : n < 1
    · rw [decide_eq_true c1]; exact .inl rfl
    · rw [decide_eq_false c1, cond_false]
      by_cases c2 : (l : Int) = 0
      · rw [beq_iff_eq.2 c2]; exact .inl rfl
      · rw [beq_eq_false_iff_ne.2 c2, cond_false]
        by_cases c3 : p < l
        · rw [decide_eq_true c3, cond_true]
          have b1 := hb (0 + p.toNat) (by omega)
          rw [w64_in (by omega) (by omega)]
          exact .inr ⟨Int.tmod_nonneg _ b1.1, Int.tmod_lt_of_pos _ (by omega)⟩
        · rw [decide_eq_false c3, cond_false]
          have := pkX_in hb hl (by omega) h0 h1
          exact .inr ⟨Int.tmod_nonneg _ (pkY_nn this.1 this.2), Int.tmod_lt_of_pos _ (by omega)⟩
  unfold pkV
  split
  · rfl
  · omega

theorem ABeq.trans' {a b c : AB} (h1 : ABeq a b) (h2 : ABeq b c) : ABeq a c := by
  cases a with
  | row rw n w g t =>
    obtain ⟨n', g', rfl, hn, hg⟩ := h1
    obtain ⟨n2, g2, rfl, hn2, hg2⟩ := h2
    exact ⟨n2, g2, rfl, Nat.le_trans hn2 hn, fun j hj => (hg j (by omega)).trans (hg2 j hj)⟩
  | cells => cases h1; exact h2
  | gone => cases h1; exact h2
def FpkO (pk : Nat → (Nat → Int) → Int → Int → Int) : List AV → List AB → Option HR
  | [.ptr 0 0 0 0, .v (.int .i64 n)], [.cells [.sl 1 1 0 0 l c, .v (.int .i64 p)] tr, .row false m 1 g tb] => some { val := .v (.int .i64 (pk l (itB g) p n)), out := [.cells [.sl 1 1 0 0 l c, .v (.int .i64 (p + 1))] tr, .row false m 1 g tb], obl := [okB m g, decide (l ≤ m), decide (0 ≤ p), decide (p ≤ 2 ^ 30)] }
  | _, _ => none
theorem pick_good {l m : Nat} {c : Option Nat} {p : Int} {b : Nat → Int} {tr tb : TypeId} (n : Int) (hb : ∀ j, j < m → 0 ≤ b j ∧ b j ≤ 255) (h2 : l ≤ m) (h3 : 0 ≤ p) (h4 : p ≤ 2 ^ 30) :
    GoodQ (execF Tryz.prog g0 noLam 100 Tryz.f32 [.ptr 0 0 0 0, .v (i64 n)] (hpRd l c p m b tr tb) (packK 2)) (fun _ vs He => vs = [.v (i64 (pkV l b p n))] ∧ Hsim He (hpRd l c (p + 1) m b tr tb)) := by
  have e0 : IntKind.wrap IntKind.i64 (p + 1) = p + 1 := wr_in (by omega)
  have e1 : IntKind.wrap IntKind.i64 (p + 1 - 1) = p := by rw [wr_in (by omega)]; omega
  rw [treePk]
  simp only [e0, e1]
  have hv := pkV_eq (n := n) hb h2 h3 h4
  have key : ∀ x, pkR l b p n = x → [AV.v (.int .i64 x)] = [AV.v (i64 (pkV l b p n))] ∧ Hsim (hpRd l c (p + 1) m b tr tb) (hpRd l c (p + 1) m b tr tb) := by
    intro x hx
    exact ⟨by rw [hv, hx], Hsim.refl _⟩
  by_cases c1 : n < 1
  · refine good_true (decide_eq_true c1) (good_out (key _ ?_))
    rw [pkR, decide_eq_true c1]; rfl
  · refine good_false (decide_eq_false c1) ?_
    by_cases c2 : (l : Int) = 0
    · refine good_true (beq_iff_eq.2 c2) (good_out (key _ ?_))
      rw [pkR, decide_eq_false c1, beq_iff_eq.2 c2]; rfl
    · refine good_false (beq_eq_false_iff_ne.2 c2) ?_
      by_cases c3 : p < l
      · refine good_true (decide_eq_true c3) (good_needs ?_ (good_out (key _ ?_)))
        · simp only [ob_cons, ob_nil, and_true, decide_eq_true_eq, Bool.not_eq_true', decide_eq_false_iff_not]
          omega
        · rw [pkR, decide_eq_false c1, beq_eq_false_iff_ne.2 c2, decide_eq_true c3]; rfl
      · have e2 : IntKind.wrap IntKind.i64 (IntKind.wrap IntKind.i64 (p * 7) + 3) = p * 7 + 3 := by rw [wr_in (x := p * 7) (by omega), wr_in (by omega)]
        have a1 := tmod_in h3 (l := l) (by omega)
        have a2 := tmod_in (x := p * 7 + 3) (by omega) (l := l) (by omega)
        refine good_false (decide_eq_false c3) (good_needs ?_ (good_out (key _ ?_)))
        · simp only [ob_cons, ob_nil, and_true, decide_eq_true_eq, Bool.not_eq_true', decide_eq_false_iff_not, e2]
          omega
        · rw [pkR, decide_eq_false c1, beq_eq_false_iff_ne.2 c2, decide_eq_false c3]; rfl
theorem rd_sim {l m : Nat} {c : Option Nat} {p : Int} {tr tb : TypeId} {g : Nat → List Value} (h : okB m g = true) : Hsim [.cells [.sl 1 1 0 0 l c, .v (.int .i64 p)] tr, .row false m 1 g tb] (hpRd l c p m (itB g) tr tb) := .cons (ABeq.refl _) (.cons (ABeq.row fun _ hj => (okB_get h hj).1) .nil)
theorem rd_sim' {l m : Nat} {c : Option Nat} {p : Int} {tr tb : TypeId} {g : Nat → List Value} (h : okB m g = true) : Hsim (hpRd l c p m (itB g) tr tb) [.cells [.sl 1 1 0 0 l c, .v (.int .i64 p)] tr, .row false m 1 g tb] := .cons (ABeq.refl _) (.cons (ABeq.row fun _ hj => (okB_get h hj).1.symm) .nil)
theorem Hsim.trans' : ∀ {H H' H'' : List AB}, Hsim H H' → Hsim H' H'' → Hsim H H''
  | _, _, _, .nil, .nil => .nil
  | _, _, _, .cons h1 t1, .cons h2 t2 => .cons (ABeq.trans' h1 h2) (Hsim.trans' t1 t2)
theorem ok_pick : SpecOk Tryz.prog 32 (specK [] (FpkO pkV)) := by
  refine specK_ok g0_ok Tryz.func32 rfl fun avs H hr hF ho => ?_
  unfold FpkO at hF
  split at hF
  · rename_i n l c p tr m g tb
    cases hF
    simp only [ob_cons, decide_eq_true_eq] at ho
    obtain ⟨h1, h2, h3, h4, _⟩ := ho
    refine ⟨hpRd l c p m (itB g) tr tb, noLam, 100, rd_sim h1, noLam' _, ⟨res_mono (fun e vs He hq => ?_) (pick_good n (fun j hj => (okB_get h1 hj).2) h2 h3 h4).out⟩⟩
    exact ⟨hq.1, hq.2.trans' (rd_sim' h1)⟩
  · cases hF

end Go.Proofs.YtddhmidegldhdaaGreatDoor

/- The frame of a law over bytes. No conditions. -/
namespace Go.Proofs.YtddhmidegldhdaaGreatDoor
open Go.ChangeShapes Go.WideShapes Go.ChangeAt Go.RowKit Go.Deep
set_option maxRecDepth 100000

theorem okB_row {m : Nat} {b : Nat → Int} (h : ∀ j, j < m → 0 ≤ b j ∧ b j ≤ 255) : okB m (rowB b) = true := List.all_eq_true.2 fun j hj => by
  have := h j (by simpa using hj)
  show inR (b j) 0 255 = true
  exact inR_iff.2 this
section
variable {H : Type} {enc : TypeId × Value → H} {W : World}
theorem byte_elem (n : Nat) (cs : List Value) (x : DataW H × List MemPlace) (_ : cs.length = 1) (h : DataW.trod enc Tryz.prog W 0 (fun _ => true) true n 5 cs = some x) :
    ∃ f : Nat → Int, (0 ≤ f 0 ∧ f 0 ≤ 255) ∧ cs = [.int .u8 (f 0)] := by
  obtain ⟨k, e, _, hw⟩ := DataW.trod_int Tryz.underlying5 h
  unfold Lit.wf at hw
  rw [Bool.and_eq_true, decide_eq_true_eq, decide_eq_true_eq] at hw
  exact ⟨fun _ => k, hw, e⟩
end

theorem contractB {f : FuncId} {fn : Func} {spec : ChangeSpec} (hf : Tryz.prog.funcs[f]? = some fn) (hp : fn.params = #[22]) (hr : fn.resultTypes = #[4]) (hvars : spec.vars = []) (hspec : ∀ (H : Type) (d : DataW H), spec.fn H [d] = { results := [.lit (.bool true)], args := [d] })
    (yes : ∀ (m : Nat) (b : Nat → Int), m ≤ 9223372036854775807 → okB m (rowB b) = true → ∃ Γ n Λ, GamOk Tryz.prog Γ ∧ (∀ cc, fn.body = some cc → LamOk Tryz.prog 1 Λ cc) ∧ GoodQ (execF Tryz.prog Γ Λ n fn [.sl 0 1 0 0 m none] [.row false m 1 (rowB b) 5] (packK 1)) SaysYes)
    (H : Type) (enc : TypeId × Value → H) (W : World) (base : Nat) (args : Array Value) (ds gs : List (DataW H)) (before : List MemPlace)
    (hval : ∀ (j : Nat) t v, fn.params[j]? = some t → args[j]? = some v → Value.okWide Tryz.prog W .any base t v)
    (hW : DataW.Whole enc Tryz.prog fn.params.toList spec.vars false W args.toList ds gs before) (htab : TabOk (fun k => W.heap.size ≤ k) W := by intro x hx; simp [tabG] at hx) :
    Calls Tryz.prog f args W fun e W' => ∃ v, e = .returned v ∧ spec.post enc Tryz.prog fn false true false false W args v W' := by
  have hW' := hW
  obtain ⟨p, q, hA0, hV, rfl, hfz, hnd⟩ := hW
  have hA : DataW.TrodAll enc Tryz.prog W 0 (fun _ => true) true fn.params.toList args.toList ds p := hA0
  rw [hp] at hA hval
  rw [hvars] at hV
  obtain ⟨v0, vs0, d0, ds0, p0, q0, hargs, rfl, rfl, h0, r0⟩ := trodAll_cons hA
  obtain ⟨rfl, rfl, rfl⟩ := trodAll_nil r0
  obtain rfl : args = #[v0] := by cases args; simp_all
  obtain ⟨rfl, rfl⟩ := trodVars_none hV
  clear hA0 hA r0
  obtain ⟨m, ν, g, hm, hok, hvr, hRH, hdom⟩ := arg_row (H := H) Tryz.underlying22 (s := 1) (by kernel_rfl) Nat.one_pos (hval 0 22 v0 rfl rfl) h0 (fun f => [.int .u8 (f 0)]) (fun f => 0 ≤ f 0 ∧ f 0 ≤ 255) (fun f => ⟨rfl, by simp [Value.oneCell']⟩) byte_elem 5 htab
  obtain ⟨Γ, n, Λ, hΓ, hΛ, hgood⟩ := yes m (fun j => g j 0) hm (okB_row hok)
  have hcall := yes_calls hΓ (n := n) (vals := [v0]) (w := W) hf (Λ := Λ) (H := [.row false m 1 (rowB fun j => g j 0) 5]) hΛ hgood (by simp only [VRs, and_true]; exact hvr) hRH hdom
  refine hcall.mono fun e W' ⟨he, hb⟩ => ?_
  subst he
  have hlt : ∀ x ∈ p0, x.block < W.heap.size := fun x hx => by simpa using hW'.lt x (by simpa using hx)
  refine ⟨_, rfl, post_below (pa := p0) (pv := []) hW' ?_ ?_ ?_ (by simp) hb ?_⟩
  · intro b sp hd
    rw [hr]
    simp only [List.append_nil, hspec]
    exact trodAll_cons_mk (shut_bool Tryz.underlying4 _) trodAll_mk0
  · intro sp hsp
    rw [hp]
    simp only [List.append_nil, hspec]
    refine trodAll_mk1 (WideElems.Trod_stays laidOut (by kernel_rfl) (of_decide_eq_true (by kernel_rfl)) h0 (fun x hx => hb.same (hlt x hx)) fun x hx => hsp x (by simpa using hx))
  · intro sp _
    rw [hvars]
    simp only [List.append_nil, hspec]
    rfl
  · exact ok_one hr rfl (okWide_bool_mk Tryz.underlying4 _)

end Go.Proofs.YtddhmidegldhdaaGreatDoor

/- l91Cyc: its trees. Conditions: those of pick. -/
namespace Go.Proofs.YtddhmidegldhdaaGreatDoor
open Go.RowKit
set_option maxRecDepth 100000

end Go.Proofs.YtddhmidegldhdaaGreatDoor

/- The abstract machine, 28: loops whose table of callees goes by the round. Conditions: those of the tables. -/
namespace Go.Proofs.YtddhmidegldhdaaGreatDoor
open Go.RowKit

end Go.Proofs.YtddhmidegldhdaaGreatDoor

/- l91Cyc: an exact point, whatever the bytes are. Conditions: those of pick. -/
namespace Go.Proofs.YtddhmidegldhdaaGreatDoor
open Go.RowKit
set_option maxRecDepth 100000

theorem okB_it {m : Nat} {g : Nat → List Value} (h : okB m g = true) : okB m (rowB (itB g)) = true := List.all_eq_true.2 fun j hj => by
  have := List.all_eq_true.1 h j hj
  rwa [(okB_get h (by simpa using hj)).1] at this
end Go.Proofs.YtddhmidegldhdaaGreatDoor

/- l91Turn and l91Design: their trees. Conditions: those of pick. -/
namespace Go.Proofs.YtddhmidegldhdaaGreatDoor
open Go.RowKit
set_option maxRecDepth 100000

def gmPk (pk : Nat → (Nat → Int) → Int → Int → Int) : Gam := ext g0 32 (specK [] (FpkO pk))
end Go.Proofs.YtddhmidegldhdaaGreatDoor

/- l91Turn and l91Design: a number and a list of wheels, whatever the bytes are. Conditions: those of pick. -/
namespace Go.Proofs.YtddhmidegldhdaaGreatDoor
open Go.RowKit
set_option maxRecDepth 100000

end Go.Proofs.YtddhmidegldhdaaGreatDoor

/- What is drawn from bytes: the word of a drawing function. Conditions: bytes, at most 2^21. -/
namespace Go.Proofs.YtddhmidegldhdaaGreatDoor
open Go.RowKit
set_option maxRecDepth 100000

def md_co : List Md := [.rd 1 5]
def FdrO (R : Nat → (Nat → Int) → FR) : List SA → Option FR
  | [.row m g] => some { val := (R m (itB g)).val, new := (R m (itB g)).new, obl := [okB m g, decide (m ≤ 2 ^ 21)] }
  | _ => none
theorem draw_ok {f : FuncId} {fn : Func} {R : Nat → (Nat → Int) → FR} (hf : Tryz.prog.funcs[f]? = some fn) (hb : fn.body.isSome = true)
    (h1 : ∀ (m : Nat) (b : Nat → Int), 0 < m → m ≤ 2 ^ 21 → okB m (rowB b) = true → ∃ Γ, GamOk Tryz.prog Γ ∧ GoodQ (execF Tryz.prog Γ noLam 100 fn [.sl 0 1 0 0 m none] [.row false m 1 (rowB b) 5] (packK 1)) (GivR [.row false m 1 (rowB b) 5] (R m b)))
    (h0 : ∀ (q : Option Addr) (c : Nat) (g : Nat → List Value) (b : Nat → Int), ∃ Γ, GamOk Tryz.prog Γ ∧ GoodQ (execF Tryz.prog Γ noLam 100 fn [.v (.slice q 0 c)] [.row false 0 1 g 5] (packK 1)) (GivR [.row false 0 1 g 5] (R 0 b))) : SpecOk Tryz.prog f (specR md_co (FdrO R)) := by
  refine specR_calls enters hf hb fun sas fr hF ho => ?_
  unfold FdrO at hF
  split at hF
  · rename_i m g
    cases hF
    simp only [ob_cons, decide_eq_true_eq] at ho
    obtain ⟨e1, e2, _⟩ := ho
    by_cases hm : m = 0
    · subst hm
      refine ⟨[.row false 0 1 g 5], Hsim.refl _, fun M vals w ν hM hv hH hdom => ?_⟩
      have hv0 : VRs ν [.sl 0 1 0 0 0 none] vals := hv
      cases vals with
      | nil => simp only [VRs] at hv0
      | cons v vs =>
        cases vs with
        | cons => simp only [VRs] at hv0; exact hv0.2.elim
        | nil =>
          simp only [VRs, VR] at hv0
          obtain ⟨⟨q, c, rfl, _⟩, _⟩ := hv0
          obtain ⟨Γ, g1, g2⟩ := h0 q c g (itB g)
          have hv2 : VRs ν [.v (.slice q 0 c)] [.slice q 0 c] := by simp only [VRs, VR]; exact ⟨trivial, trivial⟩
          exact calls_pack g1 mixed enters hf (noLam' _) hM g2.out hv2 hH hdom
    · obtain ⟨Γ, g1, g2⟩ := h1 m (itB g) (by omega) e2 (okB_it e1)
      refine ⟨[.row false m 1 (rowB (itB g)) 5], .cons (ABeq.row fun j hj => (okB_get e1 hj).1) .nil, fun M vals w ν hM hv hH hdom => ?_⟩
      have g3 : GoodQ (execF Tryz.prog Γ noLam 100 fn [.sl 0 1 0 0 m none] [.row false m 1 (rowB (itB g)) 5] (packK 1)) (GivR (abP md_co [.row m g] []) { val := (R m (itB g)).val, new := (R m (itB g)).new, obl := [okB m g, decide (m ≤ 2 ^ 21)] }) :=
        ⟨res_mono (fun e vs He ⟨av, q1, q2, q3⟩ => ⟨av, q1, q2, q3.trans' (.cons (ABeq.row fun j hj => (okB_get e1 hj).1.symm) (Hsim.refl _))⟩) g2.out⟩
      exact calls_pack g1 mixed enters hf (noLam' _) hM g3.out hv hH hdom
  · cases hF

def lnB (m : Nat) : Nat := if 2000 < m then 2000 else m
end Go.Proofs.YtddhmidegldhdaaGreatDoor

/- What is drawn: lists of wheels, and numbers. No conditions. -/
namespace Go.Proofs.YtddhmidegldhdaaGreatDoor
open Go.RowKit
set_option maxRecDepth 100000

theorem ln_cut {m : Nat} (h : (m : Int) > 2000) : lnB m = 2000 := by unfold lnB; rw [if_pos (by omega)]
theorem ln_all {m : Nat} (h : ¬ (m : Int) > 2000) : lnB m = m := by unfold lnB; rw [if_neg (by omega)]
theorem good_ln {m : Nat} {Q : Ex → List AV → List AB → Prop} {ob1 ob2 : List Bool} {r1 r2 : Res}
    (h1 : lnB m = 2000 → (m : Int) > 2000 → obls ob1 = true ∧ GoodQ r1 Q) (h2 : lnB m = m → (m : Int) ≤ 2000 → obls ob2 = true ∧ GoodQ r2 Q) : GoodQ (bif decide ((m : Int) > 2000) then needs ob1 r1 else needs ob2 r2) Q := by
  refine good_cond (fun c => ?_) fun c => ?_
  · have c := of_decide_eq_true c
    exact good_needs (h1 (ln_cut c) c).1 (h1 (ln_cut c) c).2
  · have c := of_decide_eq_false c
    exact good_needs (h2 (ln_all c) (by omega)).1 (h2 (ln_all c) (by omega)).2

end Go.Proofs.YtddhmidegldhdaaGreatDoor

/- Helpers of the laws that draw. No conditions. -/
namespace Go.Proofs.YtddhmidegldhdaaGreatDoor
open Go.RowKit
set_option maxRecDepth 100000

theorem say {c : Bool} {H : List AB} (h : c = true) : GoodQ (.out .ret [.v (.bool c)] H) SaysYes := by
  subst h
  exact good_out rfl
theorem isTidy_nil : isTidy [] := ⟨List.Pairwise.nil, fun w hw => by simp at hw, rfl⟩
end Go.Proofs.YtddhmidegldhdaaGreatDoor

/- What is written is read back; both sides read the same. Plain. No conditions. -/
namespace Go.Proofs.YtddhmidegldhdaaGreatDoor
open Go.RowKit
set_option maxRecDepth 100000

theorem bytes_ext {a b : ByteArray} (h : a.data.toList = b.data.toList) : a = b := by
  cases a; cases b
  congr 1
  exact Array.ext' h
theorem map_bytes {ws : List ByteArray} {xs : List (List UInt8)} (h : ws.map (·.data.toList) = xs) : ws = xs.map fun l => ⟨l.toArray⟩ := by
  subst h
  rw [List.map_map]
  symm
  exact (List.map_congr_left (g := id) fun b _ => bytes_ext rfl).trans (List.map_id _)

theorem spB_cuC (s : ByteArray) (c : UInt8) : spB s (ByteArray.mk (Array.mk [c])) = (cuC c s.data.toList).map fun l => ⟨l.toArray⟩ := by
  refine map_bytes ?_
  rw [spB, Lib.splitB_data]
  exact splitK_cuC _ _ (Lib.count_one c _).symm

theorem cutP_inv (s : ByteArray) (c : UInt8) : ∀ i : Nat, i ≤ s.size → cuC c s.data.toList = (cutP s (c.toNat : Int) i).1.map (·.data.toList) ++ cuC c (s.data.toList.drop (cutP s (c.toNat : Int) i).2) ∧ ∀ k, (cutP s (c.toNat : Int) i).2 ≤ k → k < i → s.data.toList[k]? ≠ some c
  | 0, _ => ⟨by simp [cutP], fun k _ h => absurd h (Nat.not_lt_zero _)⟩
  | i + 1, h => by
    obtain ⟨h1, h2⟩ := cutP_inv s c i (by omega)
    have hle := (cutP_le s (c.toNat : Int) i).2
    have hsz : s.data.toList.length = s.size := by rw [Array.length_toList]; rfl
    have hb : byB s (i : Int) = ((s.data.toList[i]'(by omega)).toNat : Int) := by
      unfold byB
      rw [Int.toNat_natCast, getElem!_pos s.data i (by have : s.data.size = s.size := rfl; omega)]
      rfl
    have hg : s.data.toList[i]? = some (s.data.toList[i]'(by omega)) := List.getElem?_eq_getElem _
    have hne : ((i : Int) == (s.size : Int)) = false := by rw [beq_eq_false_iff_ne]; omega
    rw [cutP, stepCt, hne, Bool.false_or]
    cases hq : byB s (i : Int) == (c.toNat : Int) with
    | true =>
      have hc : s.data.toList[i]'(by omega) = c := by
        have := eq_of_beq hq
        rw [hb] at this
        exact UInt8.toNat_inj.1 (by omega)
      simp only [cond_true]
      refine ⟨?_, fun k hk hk' => by omega⟩
      rw [h1, List.map_append, List.append_assoc]
      congr 1
      have e : s.data.toList.drop (cutP s (c.toNat : Int) i).2 = (s.extract (cutP s (c.toNat : Int) i).2 i).data.toList ++ c :: s.data.toList.drop (i + 1) := by
        rw [Lib.extract_data]
        have e2 : (s.data.toList.drop (cutP s (c.toNat : Int) i).2).drop (i - (cutP s (c.toNat : Int) i).2) = c :: s.data.toList.drop (i + 1) := by
          rw [List.drop_drop, show (cutP s (c.toNat : Int) i).2 + (i - (cutP s (c.toNat : Int) i).2) = i by omega, List.drop_eq_getElem_cons (by omega), hc]
        rw [← e2, List.take_append_drop]
      rw [e, cuC_app]
      · rfl
      · rw [Lib.extract_data]
        intro hm
        obtain ⟨k, hk⟩ := List.mem_iff_getElem?.1 hm
        rw [List.getElem?_take] at hk
        split at hk
        · rename_i hlt
          rw [List.getElem?_drop] at hk
          exact h2 _ (by omega) (by omega) hk
        · cases hk
    | false =>
      simp only [cond_false]
      refine ⟨h1, fun k hk hk' => ?_⟩
      rcases Nat.lt_or_ge k i with hlt | hge
      · exact h2 k hk hlt
      · have : k = i := by omega
        subst this
        rw [hg]
        intro e
        simp only [Option.some.injEq] at e
        rw [hb, e] at hq
        simp at hq
theorem cutB_cuC (s : ByteArray) (c : UInt8) : cutB s (c.toNat : Int) = (cuC c s.data.toList).map fun l => ⟨l.toArray⟩ := by
  refine map_bytes ?_
  obtain ⟨h1, h2⟩ := cutP_inv s c s.size (Nat.le_refl _)
  have hle := (cutP_le s (c.toNat : Int) s.size).2
  have hsz : s.data.toList.length = s.size := by rw [Array.length_toList]; rfl
  have hfree : c ∉ s.data.toList.drop (cutP s (c.toNat : Int) s.size).2 := fun hm => by
    obtain ⟨k, hk⟩ := List.mem_iff_getElem?.1 hm
    rw [List.getElem?_drop] at hk
    have hlt := (List.getElem?_eq_some_iff.1 hk).1
    exact h2 _ (by omega) (by omega) hk
  rw [h1, cuC_free _ hfree]
  show List.map _ (cutP s (c.toNat : Int) (s.size + 1)).1 = _
  rw [cutP, stepCt, show ((s.size : Int) == (s.size : Int)) = true from beq_self_eq_true _, Bool.true_or]
  simp only [cond_true, List.map_append, List.map_cons, List.map_nil]
  rw [Lib.extract_data, List.take_of_length_le (by rw [List.length_drop]; omega)]

end Go.Proofs.YtddhmidegldhdaaGreatDoor

/- Scripts: plain. Texts cut at lines and words; numerals. No program, no conditions. -/
namespace Go.Proofs.YtddhmidegldhdaaGreatDoor
open Go.RowKit
set_option maxRecDepth 100000

theorem decDigits_len : ∀ (k u : Nat), u < 10 ^ k → 1 ≤ k → (Lib.decDigits u).length ≤ k
  | 0, _, _, h => absurd h (by omega)
  | 1, u, h, _ => by
    rw [Lib.decDigits, dif_pos (by omega)]
    exact Nat.le_refl _
  | k + 2, u, h, _ => by
    rw [Lib.decDigits]
    split
    · show 1 ≤ k + 2
      omega
    · rw [List.length_append]
      have := decDigits_len (k + 1) (u / 10) (by rw [Nat.pow_succ] at h; omega) (by omega)
      show _ + 1 ≤ _
      omega
end Go.Proofs.YtddhmidegldhdaaGreatDoor

/- A number of a script, read by the program: told, or a panic. Conditions: the text's length. -/
namespace Go.Proofs.YtddhmidegldhdaaGreatDoor
open Go.RowKit Go.Shelf
set_option maxRecDepth 100000

theorem fr_bytes (w : World) (e : TypeId) (s : ByteArray) : Fr (nwM w) w (Lib.bytesWorld w e s) := ⟨rfl, rfl, rfl, by rw [Lib.bytesWorld_size]; omega, fun k hk _ => Lib.bytesWorld_at_old w e s k hk⟩
end Go.Proofs.YtddhmidegldhdaaGreatDoor

/- Numbers of a rest, read by the program: so many, or a panic. Conditions: the text's length; at most three. -/
namespace Go.Proofs.YtddhmidegldhdaaGreatDoor
open Go.RowKit Go.Shelf
set_option maxRecDepth 100000

theorem fr_grown {w w' : World} {row : Option Nat} (h : w.grownBy w' row) {M : Nat → Prop} (hM : ∀ k, row = some k → M k) : Fr M w w' :=
  ⟨h.os, h.tape, h.output, h.size, fun k hk hm => h.block k hk fun e => hm (hM k e.symm)⟩
theorem nw_trans {a b c : World} (h : Fr (nwM a) a b) (k : Fr (nwM b) b c) : Fr (nwM a) a c := h.trans (k.mono fun _ _ hi => Nat.le_trans h.size hi)
theorem nw_grown {a b : World} (h : Fr (nwM a) a b) : a.grownBy b none := ⟨h.os, h.tape, h.output, h.size, fun k hk _ => h.block k hk (Nat.not_le.2 hk)⟩
theorem cuC_sizes {c : UInt8} : ∀ (l : List UInt8), ∀ x ∈ cuC c l, x.length ≤ l.length := by
  intro l
  induction l with
  | nil => intro x hx; simp [cuC] at hx; subst hx; exact Nat.le_refl _
  | cons b l ih =>
    intro x hx
    unfold cuC at hx
    rw [List.length_cons]
    split at hx
    · rcases List.mem_cons.1 hx with rfl | hx
      · exact Nat.zero_le _
      · have := ih x hx
        omega
    · split at hx
      · rename_i y ys e
        rcases List.mem_cons.1 hx with rfl | hx
        · have := ih y (by rw [e]; exact List.mem_cons_self)
          rw [List.length_cons]
          omega
        · have := ih x (by rw [e]; exact List.mem_cons_of_mem _ hx)
          omega
      · rw [List.mem_singleton] at hx
        subst hx
        simp
end Go.Proofs.YtddhmidegldhdaaGreatDoor

/- Numbers told with spaces between, by the program. Conditions: ints, at most sixteen. -/
namespace Go.Proofs.YtddhmidegldhdaaGreatDoor
open Go.RowKit Go.Shelf
set_option maxRecDepth 100000

def toldL (ns : List Int) : List UInt8 := Lib.join (ns.map Lib.itoa) [32]
theorem info_str : (Tryz.prog.info? 9).map (fun i => (i.zero, i.size, i.bytes)) = some (some (.string ByteArray.empty), 1, 16) := by kernel_rfl
theorem calls_itoa (n : Int) (w : World) (ht : TabOk (nwM w) w) (h1 : -9223372036854775808 ≤ n) (h2 : n ≤ 9223372036854775807) : Calls Tryz.prog 48 #[i64 n] w (VPost w (.string (decB n))) :=
  v_v ok_itoa [i64 n] (δ := { val := .v (.string (decB n)), obl := [decide (-9223372036854775808 ≤ n), decide (n ≤ 9223372036854775807)] }) rfl rfl (by simp only [ob_cons, ob_nil, and_true, decide_eq_true_eq]; exact ⟨h1, h2⟩) rfl rfl ht
theorem itoa_short (n : Int) (h1 : -9223372036854775808 ≤ n) (h2 : n ≤ 9223372036854775807) : (Lib.itoa n).length ≤ 20 := by
  unfold Lib.itoa
  split
  · rw [List.length_cons]
    have := decDigits_len 19 n.natAbs (by omega) (by omega)
    omega
  · have := decDigits_len 19 n.toNat (by omega) (by omega)
    omega
theorem tail_len (k : Nat) : ∀ (xs : List (List UInt8)), (∀ x ∈ xs, x.length ≤ k) → (Lib.joinTail [32] xs).length ≤ xs.length * (k + 1)
  | [], _ => by simp [Lib.joinTail]
  | x :: r, h => by
    have h1 := h x List.mem_cons_self
    have h2 := tail_len k r fun z hz => h z (List.mem_cons_of_mem _ hz)
    unfold Lib.joinTail at h2 ⊢
    simp only [List.map_cons, List.flatten_cons, List.length_append, List.length_cons, List.length_nil, Nat.add_mul]
    omega
theorem join_len (k : Nat) (xs : List (List UInt8)) (h : ∀ x ∈ xs, x.length ≤ k) : (Lib.join xs [32]).length ≤ xs.length * (k + 1) := by
  cases xs with
  | nil => simp [Lib.join_nil]
  | cons x r =>
    have h1 := h x List.mem_cons_self
    have h2 := tail_len k r fun z hz => h z (List.mem_cons_of_mem _ hz)
    rw [Lib.join_cons, List.length_append, List.length_cons, Nat.add_mul]
    omega
set_option maxHeartbeats 4000000 in
theorem calls_told (ns : List Int) (b o c : Nat) (w : World) (ht : TabOk (nwM w) w) (hl : ns.length ≤ 16) (_ : ns.length ≤ c) (hb : b < w.heap.size) (hin : ∀ n ∈ ns, -9223372036854775808 ≤ n ∧ n ≤ 9223372036854775807) (hc : ∀ j (hj : j < ns.length), w.cell? ⟨b, o + j, none⟩ = some (i64 ns[j])) :
    Calls Tryz.prog 158 #[.slice (some ⟨b, o, none⟩) ns.length c] w (VPost w (.string ⟨(toldL ns).toArray⟩)) := by
  have mixed := mixed
  have t3 : Tryz.prog.underlying 3 = some (.int .i64) := by kernel_rfl
  have t187 : Tryz.prog.underlying 187 = some (.slice 3) := by kernel_rfl
  have t71 : Tryz.prog.underlying 71 = some (.slice 9) := by kernel_rfl
  obtain ⟨i0, hi, hz0, hz1, hz2⟩ := info_parts info_str
  go_enter Tryz.func158, Tryz.ntmps158
  go_wp2_with (at_make; refine wpList_make_own _ rfl _ _ 71 rfl w.heap.size 9 i0 (.string ByteArray.empty) 1 t71 hi hz0 hz1 .i64 .i64 ns.length ns.length rfl rfl rfl (by rw [hz2]; omega) (by unfold maxLen; omega) (Nat.le_refl _) ?_)
  intro w3 hown hgr
  have f3 : Fr (nwM w) w w3 := fr_grown hgr fun k e => by cases e
  obtain ⟨G, hG⟩ : ∃ G, G = w.heap.size := ⟨_, rfl⟩
  rw [← hG] at hown ⊢
  clear hgr
  go_wp2
  go_loopw [3, 11] (fun v i wr => ∃ k : Nat, k ≤ ns.length ∧ i = .int .i64 k ∧ v = .slice (some ⟨G, 0, none⟩) k ns.length ∧ wr.ownsRow G 9 1 (.slice (some ⟨G, 0, none⟩) k ns.length) k ((ns.map fun x => Value.string (decB x)).take k) ∧ Fr (nwM w) w wr) (fun _ i _ => ns.length - (intOf i).toNat)
  case atStart => exact ⟨0, Nat.zero_le _, rfl, rfl, hown, f3⟩
  case round =>
    obtain ⟨k, hk, rfl, rfl, hown, fr⟩ := hrel
    by_cases hlt : k < ns.length
    · have hcw : wr.cell? ⟨b, o + k, none⟩ = some (i64 ns[k]) := (World.cell?_of_block (a := ⟨b, o + k, none⟩) (fr.block b hb (Nat.not_le.2 hb))).trans (hc k hlt)
      have hnk := hin _ (List.getElem_mem hlt)
      have hit := calls_itoa ns[k] wr ((ht.fr fr).mono fun i _ hi => Nat.le_trans fr.size hi) hnk.1 hnk.2
      have htk : ((ns.map fun x => Value.string (decB x)).take k) ++ [.string (decB ns[k])] = (ns.map fun x => Value.string (decB x)).take (k + 1) := by
        rw [List.take_succ_eq_append_getElem (by rw [List.length_map]; exact hlt), List.getElem_map]
      have hln2 : (ns.length : Int) < 9223372036854775807 := by omega
      have hlt2 : (k : Int) < ns.length := by omega
      clear ht hin hc f3 hnk
      generalize ns[k] = x at *
      have next : ∀ (w4 w5 : World), Fr (nwM wr) wr w4 → (w4.alloc (.cells #[.string (decB x)] 9)).grownBy w5 (some G) → Fr (nwM w) w w5 := fun w4 w5 h4 h5 =>
        (nw_trans fr h4).trans ((fr_grown (World.grownBy_alloc w4 (.cells #[.string (decB x)] 9) none) (M := nwM w) fun k e => by cases e).trans (fr_grown h5 fun k e => by cases e; exact Nat.le_of_eq hG.symm))
      clear hG
      go_wp2_with (first | (go_at_call 48; refine hit.mono ?_; rintro e w4 ⟨he, f4⟩; obtain rfl := he) | (at_builtin; refine wpList_append_fits _ rfl _ _ 71 rfl G 9 i0 1 t71 hi hz1 G k ns.length _ rfl ((hown.kept (nw_grown ‹_›) (by simp [Value.ownBlock])).alloc _) ⟨_, 0, none⟩ 1 1 [.string (decB x)] rfl rfl ?c1 ?c2 ?c3 ?_))
      case c1 =>
        intro j u hj
        match j, hj with
        | 0, hj => simp at hj; subst hj; simp [Addr.add]
      case c2 => intro u hu; simp at hu; subst hu; rfl
      case c3 => omega
      intro w5 hown5 hgr5
      have n1 := next _ _ ‹_› hgr5
      clear hit hgr5 next hown fr
      go_wp2
      go_roundw
      case rel => exact ⟨k + 1, by omega, by simp, rfl, by first | exact hown5 | exact htk ▸ hown5, n1⟩
      case measure => simp [intOf]; omega
    · have hkn : k = ns.length := by omega
      subst hkn
      have htm : (ns.map fun x => Value.string (decB x)).take ns.length = ns.map fun x => Value.string (decB x) := List.take_of_length_le (by rw [List.length_map]; exact Nat.le_refl _)
      rw [htm] at hown
      have hGl : G < wr.heap.size := (hown.lt G rfl).2
      have hjl : (Lib.join ((ns.map decB).map (·.data.toList)) (ByteArray.mk #[32]).data.toList).length ≤ 140737488355328 := by
        have := join_len 20 ((ns.map decB).map (·.data.toList)) fun x hx => by
          obtain ⟨y, hy, rfl⟩ := List.mem_map.1 hx
          obtain ⟨z, hz, rfl⟩ := List.mem_map.1 hy
          exact itoa_short z (hin z hz).1 (hin z hz).2
        simp only [List.length_map] at this
        have e : (ByteArray.mk #[32]).data.toList = [32] := rfl
        rw [e]
        omega
      have hjo := Any.strings_Join Tryz.lays156 Tryz.extra156 G 0 ns.length (ns.map decB) ⟨#[32]⟩ wr (fun j x hx => by
        rw [Nat.zero_add, hown.cellAt j (by have := (List.getElem?_eq_some_iff.1 hx).1; rw [List.length_map] at this; omega)]
        rw [List.getElem?_map] at hx ⊢
        cases h : ns[j]? with
        | none => rw [h] at hx; cases hx
        | some z => rw [h] at hx; simp only [Option.map_some, Option.some.injEq] at hx ⊢; rw [hx]) hGl (by rw [List.length_map]; omega) (by rw [List.length_map]; exact Nat.le_refl _) hjl
      rw [List.length_map] at hjo
      have hte : Lib.join ((ns.map decB).map (·.data.toList)) (ByteArray.mk #[32]).data.toList = toldL ns := by
        rw [List.map_map]
        rfl
      rw [hte] at hjo
      clear ht hin hc f3 htm hjl hte hown hG hGl hk hlt
      generalize toldL ns = R at *
      generalize ns.length = N at *
      go_wp2_with (go_at_call 86; refine hjo.mono ?_; rintro e w6 ⟨rfl, hb6⟩)
      go_ret
      exact ⟨rfl, nw_trans fr ((Below.fr hb6).mono fun _ _ h => h.elim)⟩
end Go.Proofs.YtddhmidegldhdaaGreatDoor

/- The desk: what it holds; become, read. Conditions: tidy lists. -/
namespace Go.Proofs.YtddhmidegldhdaaGreatDoor
open Go.RowKit Go.Shelf
set_option maxRecDepth 100000

def Desk (D : Nat) (L : List Wh) (w : World) : Prop := ∃ p n c, w.heap[D]? = some (.cells #[.slice p n c] 67 (0, 0)) ∧ ReadsW w (.slice p n c) L
abbrev nwD (w : World) (D : Nat) : Nat → Prop := fun k => w.heap.size ≤ k ∨ k = D
def CPost (D : Nat) (L : List Wh) (r : Option (List Wh × List UInt8)) (w : World) (e : Ending) (w' : World) : Prop :=
  Fr (nwD w D) w w' ∧ match r with
    | some x => e = .returned (.string ⟨x.2.toArray⟩) ∧ Desk D x.1 w' ∧ isTidy x.1
    | none => e = diesE ∧ Desk D L w'
theorem Desk.ne {D : Nat} {L : List Wh} {w : World} (h : Desk D L w) : ¬ Wrow w D := fun ⟨l, fz, hl⟩ => by
  obtain ⟨p, n, c, h, _⟩ := h
  rw [h] at hl
  simp only [Option.some.injEq, Obj.cells.injEq] at hl
  exact absurd hl.2.1 (by decide)
theorem Desk.lt {D : Nat} {L : List Wh} {w : World} (h : Desk D L w) : D < w.heap.size := by
  obtain ⟨p, n, c, h, _⟩ := h
  exact (Array.getElem?_eq_some_iff.1 h).1
theorem Desk.fr {D : Nat} {L : List Wh} {w w' : World} (h : Desk D L w) (f : Fr (nwM w) w w') : Desk D L w' := by
  have hlt := h.lt
  obtain ⟨p, n, c, h, hr⟩ := h
  exact ⟨p, n, c, (f.block D hlt (Nat.not_le.2 hlt)).trans h, hr.below f⟩
theorem TabOk.nw {w : World} {D : Nat} (h : TabOk (nwD w D) w) : TabOk (nwM w) w := h.mono fun _ _ hk => .inl hk
theorem TabOk.nwf {w w' : World} (h : TabOk (nwM w) w) (f : Fr (nwM w) w w') : TabOk (nwM w') w' := (h.fr f).mono fun _ _ hi => Nat.le_trans f.size hi
theorem TabOk.nwg {w w' : World} {D : Nat} (h : TabOk (nwD w D) w) (f : Fr (nwD w D) w w') : TabOk (nwD w' D) w' := (h.fr f).mono fun _ _ hi => hi.elim (fun x => .inl (Nat.le_trans f.size x)) .inr
theorem Fr.nwd {w w' : World} {D : Nat} (f : Fr (nwM w) w w') : Fr (nwD w D) w w' := f.mono fun _ _ h => .inl h
theorem Desk.set {D : Nat} {L T : List Wh} {w : World} {p : Option Addr} {n c : Nat} (h : Desk D L w) (hs : ReadsW w (.slice p n c) T) : Desk D T (w.setCell ⟨D, 0, none⟩ (.slice p n c)) ∧ Fr (nwD w D) w (w.setCell ⟨D, 0, none⟩ (.slice p n c)) := by
  have hf : Fr (fun k => k = D) w (w.setCell ⟨D, 0, none⟩ (.slice p n c)) := ⟨rfl, rfl, rfl, by simp [World.setCell], fun k _ hk => Below.heap_setCell _ _ _ _ (fun e => hk e)⟩
  have hne := h.ne
  obtain ⟨p0, n0, c0, h, _⟩ := h
  refine ⟨⟨p, n, c, by simp [World.setCell, Array.getElem?_modify, h], hs.fr (M := fun k => k = D) (fun k _ e hw => hne (e ▸ hw)) hf⟩, hf.mono fun _ _ e => .inr e⟩
theorem ReadsW.slice {w : World} {v : Value} {L : List Wh} (h : ReadsW w v L) : ∃ p n c, v = .slice p n c := by
  obtain ⟨ν, _, h, _⟩ := h
  simp only [VR] at h
  obtain ⟨p, c, rfl, _⟩ := h
  exact ⟨p, _, c, rfl⟩
end Go.Proofs.YtddhmidegldhdaaGreatDoor

/- The desk in the machine: must, numbers, told, become as callees that do not fail; a command by the machine; a command that dies. Conditions: those of the table of callees. -/
namespace Go.Proofs.YtddhmidegldhdaaGreatDoor
open Go.RowKit
set_option maxRecDepth 100000

end Go.Proofs.YtddhmidegldhdaaGreatDoor

/- The desk: a command that dies in a region that draws its order. Conditions: those of the table of callees. -/
namespace Go.Proofs.YtddhmidegldhdaaGreatDoor
open Go.RowKit
set_option maxRecDepth 100000

structure Dies (Γ : Gam) (M : Nat → Prop) (w : World) (ν : Nu) (T : List AV) (H : List AB) (ops : Array Oper) (R : Ending → World → Prop) : Prop where
  mk' : ∃ (k : Nat) (QQ : Ex → List AV → List AB → Prop) (o : Oper) (g : FuncId) (args : Array Operand) (ts : Array TypeId),
    (execOps Tryz.prog Γ ops.toList (ops.toList.take k) T H [] fun T' H' tr => cond (drawOk ops.toList tr.reverse && dieOk k ops.toList) (.out .normal T' H') .err).ok QQ ∧ ops.toList[k]? = some o ∧ o.guard = none ∧ o.op = .call ⟨.value (.func g), args, ts⟩ ∧ (∀ args w, (callFunc g args).run Tryz.prog w = .ok (.enter g args) w) ∧ argsB k ops.toList args.toList = true ∧
    ∀ T' H', QQ .normal T' H' → ∀ w' ν' (vals : List Value), VRs ν' (args.toList.map (evA T')) vals → (lateB k ops.toList = true → RH M ν' (fun b => H'.getD b .gone) w' ∧ Le ν ν') → Fr M w w' → TabOk M w' → Calls Tryz.prog g vals.toArray w' fun e w'' => ∃ chain, e = .panicked chain ∧ R (.panicked chain) w''
end Go.Proofs.YtddhmidegldhdaaGreatDoor

/- errors.As at a target **misfit: closed facts on internal/reflectlite; errors.as at a misfit and at a list of errors whose first is a misfit. Conditions: errors.errorType is laid. -/
namespace Go.Proofs.YtddhmidegldhdaaGreatDoor
open Go.RowKit Go.Extern.Stop Go.Stop Go.Extern
set_option maxRecDepth 100000

end Go.Proofs.YtddhmidegldhdaaGreatDoor

/- errors.as and errors.As at the target of 'fits': nil, a misfit, a list of errors whose first is a misfit. Conditions: errors.errorType is laid. -/
namespace Go.Proofs.YtddhmidegldhdaaGreatDoor
open Go.RowKit Go.Extern.Stop Go.Stop Go.Extern
set_option maxRecDepth 100000

abbrev hM : Value := .iface 221 (.agg #[.pointer (some ⟨10, 104, none⟩)])
end Go.Proofs.YtddhmidegldhdaaGreatDoor

/- errors.as at a list of errors whose first is a misfit; errors.As at both; fits. Conditions: errors.errorType is laid. -/
namespace Go.Proofs.YtddhmidegldhdaaGreatDoor
open Go.RowKit Go.Extern.Stop Go.Stop Go.Extern
set_option maxRecDepth 100000

end Go.Proofs.YtddhmidegldhdaaGreatDoor

/- errors.As at a misfit and at a list of errors whose first is a misfit; fits. Conditions: errors.errorType is laid. -/
namespace Go.Proofs.YtddhmidegldhdaaGreatDoor
open Go.RowKit Go.Extern.Stop Go.Stop Go.Extern
set_option maxRecDepth 100000

abbrev eT : Value := .iface 221 (.agg #[.pointer (some ⟨10, 49, none⟩)])
def isMis (v : Value) (w : World) : Prop := (∃ e, v = .iface 104 (.pointer (some e))) ∨ ∃ j b e n c, v = .iface 157 (.pointer (some j)) ∧ 0 < n ∧ w.cell? j = some (.slice (some b) n c) ∧ w.cell? b = some (.iface 104 (.pointer (some e)))
theorem isMis.keep {v : Value} {w w' : World} (h : isMis v w) (hk : ∀ a x, w.cell? a = some x → w'.cell? a = some x) : isMis v w' := by
  rcases h with h | ⟨j, b, e, n, c, h1, h2, h3, h4⟩
  · exact .inl h
  · exact .inr ⟨j, b, e, n, c, h1, h2, hk _ _ h3, hk _ _ h4⟩
end Go.Proofs.YtddhmidegldhdaaGreatDoor

/- gear, errors.Join at two errors, meshes. No conditions. -/
namespace Go.Proofs.YtddhmidegldhdaaGreatDoor
open Go.RowKit Go.Extern.Stop Go.Stop Go.Extern
set_option maxRecDepth 100000

end Go.Proofs.YtddhmidegldhdaaGreatDoor

/- errors.Join at two errors of which one is a misfit. No conditions. -/
namespace Go.Proofs.YtddhmidegldhdaaGreatDoor
open Go.RowKit Go.Extern.Stop Go.Stop Go.Extern
set_option maxRecDepth 100000

end Go.Proofs.YtddhmidegldhdaaGreatDoor

/- errors.Join: the other two cases; meshes where teeth do not fit. No conditions. -/
namespace Go.Proofs.YtddhmidegldhdaaGreatDoor
open Go.RowKit Go.Extern.Stop Go.Stop Go.Extern
set_option maxRecDepth 100000

end Go.Proofs.YtddhmidegldhdaaGreatDoor

/- meshes where teeth do not fit. No conditions. -/
namespace Go.Proofs.YtddhmidegldhdaaGreatDoor
open Go.RowKit Go.Extern.Stop Go.Stop Go.Extern
set_option maxRecDepth 100000

end Go.Proofs.YtddhmidegldhdaaGreatDoor

/- l1Gcd, the reference's: its word. Conditions: numbers of 64 bits. -/
namespace Go.Proofs.YtddhmidegldhdaaGreatDoor
open Go.RowKit
set_option maxRecDepth 100000

end Go.Proofs.YtddhmidegldhdaaGreatDoor

/- The reference's RingDesign: trees; greatest common divisors. Conditions: numbers of 64 bits. -/
namespace Go.Proofs.YtddhmidegldhdaaGreatDoor
open Go.RowKit
set_option maxRecDepth 100000

end Go.Proofs.YtddhmidegldhdaaGreatDoor

/- The greatest common divisor, of both. Conditions: numbers up to 10^12. -/
namespace Go.Proofs.YtddhmidegldhdaaGreatDoor
open Go.RowKit
set_option maxRecDepth 100000

end Go.Proofs.YtddhmidegldhdaaGreatDoor

/- DesignPeriod and DesignFold of both: trees. Conditions: a list of wheels. -/
namespace Go.Proofs.YtddhmidegldhdaaGreatDoor
open Go.RowKit
set_option maxRecDepth 100000

end Go.Proofs.YtddhmidegldhdaaGreatDoor

/- DesignPeriod and DesignFold of both: their words. Conditions: a list of wheels. -/
namespace Go.Proofs.YtddhmidegldhdaaGreatDoor
open Go.RowKit
set_option maxRecDepth 100000

end Go.Proofs.YtddhmidegldhdaaGreatDoor

/- meshes where teeth fit: its tree; fits at nil. No conditions. -/
namespace Go.Proofs.YtddhmidegldhdaaGreatDoor
open Go.RowKit
set_option maxRecDepth 100000

end Go.Proofs.YtddhmidegldhdaaGreatDoor

/- meshes where teeth fit: its word; gauss, tidied at two wheels; RingDesign's trees. No conditions. -/
namespace Go.Proofs.YtddhmidegldhdaaGreatDoor
open Go.RowKit
set_option maxRecDepth 100000

end Go.Proofs.YtddhmidegldhdaaGreatDoor

/- tidied at two wheels; RingDesign's trees, where teeth fit. No conditions. -/
namespace Go.Proofs.YtddhmidegldhdaaGreatDoor
open Go.RowKit
set_option maxRecDepth 100000

end Go.Proofs.YtddhmidegldhdaaGreatDoor

/- The program's RingDesign and RingCusps, where teeth fit: their words. No conditions. -/
namespace Go.Proofs.YtddhmidegldhdaaGreatDoor
open Go.RowKit
set_option maxRecDepth 100000

end Go.Proofs.YtddhmidegldhdaaGreatDoor

/- The program's RingDesign, where there is none: its word; both read as one. Conditions: errors.errorType is laid. -/
namespace Go.Proofs.YtddhmidegldhdaaGreatDoor
open Go.RowKit
set_option maxRecDepth 100000

end Go.Proofs.YtddhmidegldhdaaGreatDoor

/- The desk: in, out, show. Conditions: the rest's length. -/
namespace Go.Proofs.YtddhmidegldhdaaGreatDoor
open Go.RowKit Go.Shelf
set_option maxRecDepth 100000

theorem CPost.after {D : Nat} {L : List Wh} {r : Option (List Wh × List UInt8)} {w w1 : World} (f : Fr (nwM w) w w1) {e : Ending} {w' : World} (h : CPost D L r w1 e w') : CPost D L r w e w' :=
  ⟨(f.nwd (D := D)).trans (h.1.mono fun _ _ hk => hk.elim (fun x => .inl (Nat.le_trans f.size x)) .inr), h.2⟩
theorem CPost.die {D : Nat} {L : List Wh} {w w1 : World} (hd : Desk D L w) (f : Fr (nwM w) w w1) : CPost D L none w diesE w1 := ⟨f.nwd, rfl, hd.fr f⟩
theorem CPost.say {D : Nat} {L : List Wh} {w w1 : World} {t : List UInt8} (hd : Desk D L w) (hT : isTidy L) (f : Fr (nwM w) w w1) : CPost D L (some (L, t)) w (.returned (.string ⟨t.toArray⟩)) w1 := ⟨f.nwd, rfl, hd.fr f, hT⟩
theorem CPost.some_eq {D : Nat} {L T : List Wh} {t : List UInt8} {w w' : World} {e : Ending} (h : CPost D L (some (T, t)) w e w') : e = .returned (.string ⟨t.toArray⟩) ∧ CPost D L (some (T, t)) w (.returned (.string ⟨t.toArray⟩)) w' := by
  have := h.2.1
  exact ⟨this, h.1, rfl, h.2.2⟩
theorem CPost.none_eq {D : Nat} {L : List Wh} {w w' : World} {e : Ending} (h : CPost D L none w e w') : e = diesE ∧ CPost D L none w diesE w' := ⟨h.2.1, h.1, rfl, h.2.2⟩
theorem ob2 {a b : Bool} (ha : a = true) (hb : b = true) : obls [a, b] = true := by subst ha hb; rfl
end Go.Proofs.YtddhmidegldhdaaGreatDoor

/- Plain: the point and the fold of two wheels. No program, no conditions. -/
namespace Go.Proofs.YtddhmidegldhdaaGreatDoor
open Go.RowKit
set_option maxRecDepth 100000

abbrev rl (x : Int) : Cy := ⟨x, 0, 0, 0, 0, 0, 0, 0⟩
end Go.Proofs.YtddhmidegldhdaaGreatDoor

/- The desk: in, out, show. Conditions: tidy lists, the rest's length. -/
namespace Go.Proofs.YtddhmidegldhdaaGreatDoor
open Go.RowKit Go.Shelf
set_option maxRecDepth 100000

def CmdOk (f : FuncId) (S : List Wh → List UInt8 → Option (List Wh × List UInt8)) : Prop :=
  ∀ {D : Nat} {L : List Wh} (s : ByteArray) {w : World}, Desk D L w → TabOk (nwD w D) w → isTidy L → s.size ≤ 1000 → Calls Tryz.prog f #[.pointer (some ⟨D, 0, none⟩), .string s] w (CPost D L (S L s.data.toList) w)
end Go.Proofs.YtddhmidegldhdaaGreatDoor

/- The deferred function of answer: what it makes of a panic. No conditions. -/
namespace Go.Proofs.YtddhmidegldhdaaGreatDoor
open Go.RowKit Go.Shelf
set_option maxRecDepth 100000

abbrev malV : Value := .iface 130 (.agg #[])
theorem res107r (tmps : Array Value) (w : World) : (results Tryz.f107 tmps).run Tryz.prog w = .ok (.tuple #[]) w := by simp [results]
set_option maxHeartbeats 1000000 in
theorem catch_idle (p : Addr) (w : World) : CallsD Tryz.prog 107 #[.pointer (some p)] .returning w fun e u' w' => e = .returned (.tuple #[]) ∧ u' = .returning ∧ w' = w := by
  have mixed := mixed
  refine callsD_of_wpS Tryz.func107 rfl fun c₀ cs hu => ?_
  apply wpS_seq
  apply wpS_region
  simp [wpOpsS, go_sem, recoverD, hu, Tryz.ntmps107, Exit.thenS]
  apply wpS_of_wp
  go_wp2
  exact ⟨rfl, .returning, by cases c₀; simp at hu; subst hu; rfl, .tuple #[], res107r _ _, rfl, rfl, rfl⟩
theorem ta_mal (w : World) : (Instr.typeAssert malV 20 130 true).run Tryz.prog w = .ok (.tuple #[.agg #[], .bool true]) w := pureRun_run (by kernel_rfl) w
theorem ta_ref (w : World) : (Instr.typeAssert refV 20 130 true).run Tryz.prog w = .ok (.tuple #[.agg #[], .bool false]) w := pureRun_run (by kernel_rfl) w
theorem ta_ref2 (w : World) : (Instr.typeAssert refV 20 131 true).run Tryz.prog w = .ok (.tuple #[.agg #[], .bool true]) w := pureRun_run (by kernel_rfl) w
abbrev whatB : ByteArray := ⟨#[119, 104, 97, 116]⟩
abbrev noB : ByteArray := ⟨#[110, 111]⟩
set_option maxHeartbeats 2000000 in
theorem catch_mal (p : Addr) (x : Value) (older : List PanicEntry) (w : World) (hc : w.cell? p = some x) (hz : w.frozen? p = false) (hp : p.block < w.heap.size) :
    CallsD Tryz.prog 107 #[.pointer (some p)] (.panicking ({ v := malV, recovered := false } :: older)) w fun e u' w' => e = .returned (.tuple #[]) ∧ u' = .panicking ({ v := malV, recovered := true } :: older) ∧ ∃ o, w' = (w.alloc o).setCell p (.string whatB) := by
  have mixed := mixed
  have hc2 : ∀ o, (w.alloc o).cell? p = some x := fun o => (World.cell?_of_block (Below.heap_alloc w o _ hp)).trans hc
  have hz2 : ∀ o, (w.alloc o).frozen? p = false := fun o => (World.frozen?_of_block (Below.heap_alloc w o _ hp)).trans hz
  have ta := ta_mal
  refine callsD_of_wpS Tryz.func107 rfl fun c₀ cs hu => ?_
  apply wpS_seq
  apply wpS_region
  simp [wpOpsS, go_sem, recoverD, hu, Tryz.ntmps107, Exit.thenS]
  apply wpS_of_wp
  go_wp2
  refine ⟨rfl, _, rfl, .tuple #[], res107r _ _, rfl, rfl, _, rfl⟩
set_option maxHeartbeats 2000000 in
theorem catch_ref (p : Addr) (x : Value) (older : List PanicEntry) (w : World) (hc : w.cell? p = some x) (hz : w.frozen? p = false) (hp : p.block < w.heap.size) :
    CallsD Tryz.prog 107 #[.pointer (some p)] (.panicking ({ v := refV, recovered := false } :: older)) w fun e u' w' => e = .returned (.tuple #[]) ∧ u' = .panicking ({ v := refV, recovered := true } :: older) ∧ ∃ o, w' = (w.alloc o).setCell p (.string noB) := by
  have mixed := mixed
  have hc2 : ∀ o, (w.alloc o).cell? p = some x := fun o => (World.cell?_of_block (Below.heap_alloc w o _ hp)).trans hc
  have hz2 : ∀ o, (w.alloc o).frozen? p = false := fun o => (World.frozen?_of_block (Below.heap_alloc w o _ hp)).trans hz
  have ta := ta_ref
  have tb := ta_ref2
  refine callsD_of_wpS Tryz.func107 rfl fun c₀ cs hu => ?_
  apply wpS_seq
  apply wpS_region
  simp [wpOpsS, go_sem, recoverD, hu, Tryz.ntmps107, Exit.thenS]
  apply wpS_of_wp
  go_wp2
  refine ⟨rfl, _, rfl, .tuple #[], res107r _ _, rfl, rfl, _, rfl⟩
end Go.Proofs.YtddhmidegldhdaaGreatDoor

/- The table of a session's words, as answer makes it. No conditions. -/
namespace Go.Proofs.YtddhmidegldhdaaGreatDoor
open Go.RowKit Go.Shelf
set_option maxRecDepth 100000

def wordsT : List (List UInt8 × Bool × FuncId) := [([97, 100, 100], true, 90), ([97, 114, 101, 97], true, 104), ([97, 116], true, 102), ([98, 97, 99, 107], false, 97), ([102, 97, 115, 116, 101, 114], true, 96), ([102, 111, 108, 100], false, 100), ([103, 114, 105, 100], true, 103), ([105, 110], true, 92), ([108, 97, 116, 101, 114], true, 95), ([109, 105, 114, 114, 111, 114], false, 98), ([111, 117, 116], true, 93), ([112, 101, 114, 105, 111, 100], false, 101), ([112, 108, 111, 116], true, 106), ([115, 101, 116], true, 89), ([115, 104, 111, 119], false, 99), ([115, 117, 109], false, 105), ([116, 105, 109, 101, 115], true, 91), ([116, 117, 114, 110], true, 94)]
def tabF (l : List UInt8) : Option (Bool × FuncId) := (wordsT.find? fun x => x.1 == l).map (·.2)
def rC : Value → Option (DataW Unit × List MemPlace)
  | .agg (Array.mk [.bool r, .func (.func f) (Array.mk []) (Array.mk [])]) => some (.agg [.lit (.bool r), .lit (.int .i64 f)], [])
  | .agg (Array.mk [.bool r, .nilFunc]) => some (.agg [.lit (.bool r), .lit (.int .i64 (-1))], [])
  | _ => none
def dC (x : List UInt8 × Bool × FuncId) : Lit × DataW Unit := (.string x.1, .agg [.lit (.bool x.2.1), .lit (.int .i64 x.2.2)])
def tabD : DataW Unit := .map (wordsT.map dC)
def putD (d : DataW Unit) (x : List UInt8 × Bool × FuncId) : DataW Unit := d.put (dC x).1 (dC x).2
def wordsO : List (List UInt8 × Bool × FuncId) := [([115, 101, 116], true, 89), ([97, 100, 100], true, 90), ([116, 105, 109, 101, 115], true, 91), ([105, 110], true, 92), ([111, 117, 116], true, 93), ([116, 117, 114, 110], true, 94), ([108, 97, 116, 101, 114], true, 95), ([102, 97, 115, 116, 101, 114], true, 96), ([98, 97, 99, 107], false, 97), ([109, 105, 114, 114, 111, 114], false, 98), ([115, 104, 111, 119], false, 99), ([102, 111, 108, 100], false, 100), ([112, 101, 114, 105, 111, 100], false, 101), ([97, 116], true, 102), ([103, 114, 105, 100], true, 103), ([97, 114, 101, 97], true, 104), ([115, 117, 109], false, 105), ([112, 108, 111, 116], true, 106)]
theorem tabD_eq : wordsO.foldl putD (.map []) = tabD := by kernel_rfl
theorem has_tab (l : List UInt8) : Maps.has tabD (.string l) = (tabF l).isSome := by
  show (wordsT.map dC).any (fun p => p.1.sameKey (.string l)) = _
  unfold tabF
  generalize wordsT = ws
  induction ws with
  | nil => rfl
  | cons x ws ih =>
    rw [List.map_cons, List.any_cons, List.find?_cons]
    show (x.1 == l || _) = _
    cases h : x.1 == l with
    | true => rfl
    | false => rw [Bool.false_or]; exact ih
theorem at_tab (l : List UInt8) (z : DataW Unit) : tabD.atKey (.string l) z = match tabF l with | some y => .agg [.lit (.bool y.1), .lit (.int .i64 y.2)] | none => z := by
  unfold tabD DataW.atKey tabF
  simp only
  generalize wordsT = ws
  induction ws with
  | nil => rfl
  | cons x ws ih =>
    rw [List.map_cons, List.find?_cons, List.find?_cons]
    have e : (dC x).1.sameKey (.string l) = (x.1 == l) := rfl
    rw [e]
    cases h : (x.1 == l) with
    | true => rfl
    | false => exact ih
theorem rC_inv {v : Value} {r : Bool} {f : FuncId} {ps : List MemPlace} (h : rC v = some (.agg [.lit (.bool r), .lit (.int .i64 f)], ps)) : v = .agg #[.bool r, .func (.func f) #[] #[]] := by
  unfold rC at h
  split at h
  · simp only [Option.some.injEq, Prod.mk.injEq, DataW.agg.injEq, List.cons.injEq, DataW.lit.injEq, Lit.bool.injEq, Lit.int.injEq, and_true, true_and] at h
    obtain ⟨⟨rfl, h⟩, _⟩ := h
    have := Int.ofNat.inj h
    subst this
    rfl
  · simp only [Option.some.injEq, Prod.mk.injEq, DataW.agg.injEq, List.cons.injEq, DataW.lit.injEq, Lit.int.injEq, and_true, true_and] at h
    obtain ⟨⟨_, h⟩, _⟩ := h
    exact absurd h (by omega)
  · cases h
theorem tabF_mem {l : List UInt8} {r : Bool} {f : FuncId} (h : tabF l = some (r, f)) : (l, r, f) ∈ wordsT := by
  unfold tabF at h
  simp only [Option.map_eq_some_iff] at h
  obtain ⟨x, h1, h2⟩ := h
  have h3 := List.mem_of_find?_eq_some h1
  have h4 := List.find?_some h1
  have h5 := eq_of_beq h4
  obtain ⟨a, b⟩ := x
  simp only at h5 h2
  subst h5 h2
  exact h3
theorem keyS : Maps.Keyed Tryz.prog 9 := Maps.string_keyed (by kernel_rfl)
theorem tMap : Tryz.prog.underlying 128 = some (.map 9 127) := by kernel_rfl
theorem tStr : Tryz.prog.underlying 9 = some .string := by kernel_rfl
def Filled (b : Nat) : List (List UInt8 × Bool × FuncId) → World → World → Prop
  | [], w, w' => w = w'
  | x :: l, w, w' => ∃ w1, (Instr.mapUpdate 128 (.map (some b)) (.string ⟨x.1.toArray⟩) (.agg #[.bool x.2.1, .func (.func x.2.2) #[] #[]])).run Tryz.prog w = .ok () w1 ∧ Filled b l w1 w'
theorem fill_map {b : Nat} : ∀ (l : List (List UInt8 × Bool × FuncId)) (n : Nat) (D : DataW Unit) (w : World), w.ownsMap Tryz.prog 9 rC b n D → (∀ x ∈ l, x.1.length ≤ 1000) → n + l.length ≤ 1000 → ∃ w', Filled b l w w' ∧ w'.ownsMap Tryz.prog 9 rC b (n + l.length) (l.foldl putD D) ∧ w.mapTurned w' b
  | [], n, D, w, h, _, _ => ⟨w, rfl, h, h.turned_refl⟩
  | x :: l, n, D, w, h, hx, hn => by
    rw [List.length_cons] at hn
    obtain ⟨w1, h1, h2, h3⟩ := h.store keyS tMap (by unfold maxLen; omega) (key := .string ⟨x.1.toArray⟩) (val := .agg #[.bool x.2.1, .func (.func x.2.2) #[] #[]]) (kl := (dC x).1) (d := (dC x).2) (ps := []) (Go.WideMaps.keyOf_string_mk tStr (by rw [mkS_size]; have := hx x List.mem_cons_self; unfold maxLen; omega)) rfl
    obtain ⟨w2, h4, h5, h6⟩ := fill_map l (n + 1) _ w1 h2 (fun y hy => hx y (List.mem_cons_of_mem _ hy)) (by omega)
    refine ⟨w2, ⟨w1, h1, h4⟩, ?_, h3.trans h6⟩
    rw [List.length_cons, show n + (l.length + 1) = n + 1 + l.length by omega]
    exact h5
end Go.Proofs.YtddhmidegldhdaaGreatDoor

/- answer: a line is answered. Conditions: tidy lists; the words of the line have their words. -/
namespace Go.Proofs.YtddhmidegldhdaaGreatDoor
open Go.RowKit Go.Shelf
set_option maxRecDepth 100000

abbrev CmdT := List UInt8 → List Wh → List UInt8 → Option (List Wh × List UInt8)
def lineQ (Sg : CmdT) (L : List Wh) (line : List UInt8) : List Wh × List UInt8 :=
  match tabF (Lib.cut line [32]).1 with
  | some (r, _) => bif r == (Lib.cut line [32]).2.2 then (match Sg (Lib.cut line [32]).1 L (Lib.cut line [32]).2.1 with
    | some x => x
    | none => (L, [110, 111])) else (L, [119, 104, 97, 116])
  | none => (L, [119, 104, 97, 116])
def LineOk (Sg : CmdT) (line : List UInt8) : Prop := ∀ r f, tabF (Lib.cut line [32]).1 = some (r, f) → r = (Lib.cut line [32]).2.2 → CmdOk f (Sg (Lib.cut line [32]).1)
def APost (D : Nat) (x : List Wh × List UInt8) (w : World) (e : Ending) (w' : World) : Prop :=
  e = .returned (.string ⟨x.2.toArray⟩) ∧ Desk D x.1 w' ∧ isTidy x.1 ∧ Fr (nwD w D) w w'
theorem calls_cut (s : ByteArray) (w : World) (ht : TabOk (nwM w) w) (hs : s.size ≤ 1000) : Calls Tryz.prog 108 #[.string s, .string ⟨#[32]⟩] w (VPost w (.tuple #[.string ⟨(Lib.cut s.data.toList [32]).1.toArray⟩, .string ⟨(Lib.cut s.data.toList [32]).2.1.toArray⟩, .bool (Lib.cut s.data.toList [32]).2.2])) :=
  v_v ok_cut [.string s, .string ⟨#[32]⟩] (δ := { val := .v (.tuple #[.string (cuA s ⟨#[32]⟩), .string (cuB s ⟨#[32]⟩), .bool (cuF s ⟨#[32]⟩)]), obl := [Nat.blt s.size 4294967281] }) rfl rfl (by simp only [ob_cons, ob_nil, and_true, Nat.blt_eq]; omega) rfl rfl ht
theorem zeroC (w : World) : (zeroValue 127).run Tryz.prog w = .ok (.agg #[.bool false, .nilFunc]) w := by kernel_rfl
theorem rC_inv0 {v : Value} {ps : List MemPlace} (h : rC v = some (.agg [.lit (.bool false), .lit (.int .i64 (-1))], ps)) : v = .agg #[.bool false, .nilFunc] := by
  unfold rC at h
  split at h
  · simp only [Option.some.injEq, Prod.mk.injEq, DataW.agg.injEq, List.cons.injEq, DataW.lit.injEq, Lit.int.injEq, and_true, true_and] at h
    obtain ⟨⟨_, h⟩, _⟩ := h
    exact absurd h (by omega)
  · simp only [Option.some.injEq, Prod.mk.injEq, DataW.agg.injEq, List.cons.injEq, DataW.lit.injEq, Lit.bool.injEq, and_true] at h
    obtain ⟨rfl, _⟩ := h
    rfl
  · cases h
theorem words_fn : (wordsT.all fun x => (match Tryz.prog.funcs[x.2.2]? with | some fn => fn.body.isSome | none => false)) = true := by kernel_rfl
theorem enters_w {f : FuncId} {l : List UInt8} {r : Bool} (h : tabF l = some (r, f)) (args : Array Value) (w : World) : (callFunc f args).run Tryz.prog w = .ok (.enter f args) w := by
  have hm := List.all_eq_true.1 words_fn _ (tabF_mem h)
  simp only at hm
  cases hf : Tryz.prog.funcs[f]? with
  | none => rw [hf] at hm; cases hm
  | some fn => rw [hf] at hm; exact enters f fn hf hm args w
theorem cutL_le (l c : List UInt8) : (Lib.cut l c).1.length ≤ l.length ∧ (Lib.cut l c).2.1.length ≤ l.length := by
  unfold Lib.cut
  split
  · simp only [List.length_take, List.length_drop]; omega
  · simp
theorem fr_box {w W : World} (f : Fr (nwM w) w W) (o : Obj) (v : Value) : Fr (nwM w) w ((W.alloc o).setCell ⟨w.heap.size, 0, none⟩ v) := by
  have f1 : Fr (nwM w) w (W.alloc o) := f.trans (fr_grown (World.grownBy_alloc W o none) fun k e => by cases e)
  refine f1.trans ⟨rfl, rfl, rfl, by simp [World.setCell], fun k _ hk => Below.heap_setCell _ _ _ _ (fun e => hk ?_)⟩
  exact Nat.le_of_eq e.symm
theorem ReadsW.box {w : World} {B : Nat} {v x y : Value} {L : List Wh} {fz : Nat × Nat} (h : ReadsW w v L) (hb : w.heap[B]? = some (.cells #[x] 9 fz)) : ReadsW (w.setCell ⟨B, 0, none⟩ y) v L := by
  refine h.kept (by simp [World.setCell]) fun k _ ⟨l, fz', hk⟩ => Below.heap_setCell _ _ _ _ fun e => ?_
  have e : k = B := e
  rw [e, hb] at hk
  simp only [Option.some.injEq, Obj.cells.injEq] at hk
  exact absurd hk.2.1 (by decide)
theorem Desk.box {D B : Nat} {L : List Wh} {w : World} {x y : Value} {fz : Nat × Nat} (h : Desk D L w) (hb : w.heap[B]? = some (.cells #[x] 9 fz)) (hB : B ≠ D) : Desk D L (w.setCell ⟨B, 0, none⟩ y) := by
  obtain ⟨p, n, c, h1, h2⟩ := h
  refine ⟨p, n, c, ?_, h2.box hb⟩
  rw [Below.heap_setCell _ _ _ _ (show D ≠ B from hB.symm)]
  exact h1
theorem fr_boxD {w W : World} {D : Nat} (f : Fr (nwD w D) w W) (o : Obj) (v : Value) : Fr (nwD w D) w ((W.alloc o).setCell ⟨w.heap.size, 0, none⟩ v) := by
  have f1 : Fr (nwD w D) w (W.alloc o) := f.trans (fr_grown (World.grownBy_alloc W o none) fun k e => by cases e)
  refine f1.trans ⟨rfl, rfl, rfl, by simp [World.setCell], fun k _ hk => Below.heap_setCell _ _ _ _ (fun e => hk ?_)⟩
  exact .inl (Nat.le_of_eq e.symm)
theorem fr_setD {w W : World} {D : Nat} (f : Fr (nwD w D) w W) (v : Value) : Fr (nwD w D) w (W.setCell ⟨w.heap.size, 0, none⟩ v) := by
  refine f.trans ⟨rfl, rfl, rfl, by simp [World.setCell], fun k _ hk => Below.heap_setCell _ _ _ _ (fun e => hk ?_)⟩
  exact .inl (Nat.le_of_eq e.symm)
set_option maxHeartbeats 8000000 in
theorem calls_answer {Sg : CmdT} {D : Nat} {L : List Wh} (s : ByteArray) {w : World} (hd : Desk D L w) (ht : TabOk (nwD w D) w) (hT : isTidy L) (hs : s.size ≤ 1000) (hok : LineOk Sg s.data.toList) :
    Calls Tryz.prog 47 #[.pointer (some ⟨D, 0, none⟩), .string s] w (APost D (lineQ Sg L s.data.toList) w) := by
  have mixed := mixed
  have hmf : ∀ (fn : Fn) (first cap : Array Value) (w : World), (Instr.makeFunc fn first cap).run Tryz.prog w = .ok (.func fn first cap) w := fun _ _ _ _ => rfl
  obtain ⟨wm, hwm⟩ : ∃ wm, (w.alloc (.cells #[.string ⟨#[]⟩] 9)).alloc (.map #[] 0) = wm := ⟨_, rfl⟩
  have hm0 : wm.ownsMap Tryz.prog 9 rC (w.heap.size + 1) 0 (.map []) := by
    have := World.ownsMap_made (w.alloc (.cells #[.string ⟨#[]⟩] 9)) Tryz.prog 9 rC
    rw [hwm] at this
    simpa using this
  obtain ⟨wf, hfill, hown, hturn⟩ := fill_map wordsO 0 _ wm hm0 (by decide) (by decide)
  rw [tabD_eq] at hown
  obtain ⟨x0, h0, ⟨x1, h1, ⟨x2, h2, ⟨x3, h3, ⟨x4, h4, ⟨x5, h5, ⟨x6, h6, ⟨x7, h7, ⟨x8, h8, ⟨x9, h9, ⟨x10, h10, ⟨x11, h11, ⟨x12, h12, ⟨x13, h13, ⟨x14, h14, ⟨x15, h15, ⟨x16, h16, ⟨x17, h17, rfl⟩⟩⟩⟩⟩⟩⟩⟩⟩⟩⟩⟩⟩⟩⟩⟩⟩⟩ := hfill
  simp only [] at h0 h1 h2 h3 h4 h5 h6 h7 h8 h9 h10 h11 h12 h13 h14 h15 h16 h17
  have hmk : (Instr.makeMap 128 none).run Tryz.prog (w.alloc (.cells #[.string ⟨#[]⟩] 9)) = .ok (.map (some (w.heap.size + 1))) wm := by rw [run_makeMap, ← hwm]; simp
  clear hm0
  have fa : Fr (nwM w) w x17 := by
    refine (nw_trans (fr_grown (World.grownBy_alloc w (.cells #[.string ⟨#[]⟩] 9) none) fun k e => by cases e) (fr_grown (M := nwM _) (hwm ▸ World.grownBy_alloc (w.alloc (.cells #[.string ⟨#[]⟩] 9)) (.map #[] 0) none) fun k e => by cases e)).trans (fr_grown hturn.grown fun k e => ?_)
    cases e
    show w.heap.size ≤ w.heap.size + 1
    omega
  have hbox : x17.heap[w.heap.size]? = some (.cells #[.string ⟨#[]⟩] 9 (0, 0)) := by
    rw [hturn.grown.block _ (by rw [← hwm]; simp; omega) (by simp), ← hwm]
    exact (Below.heap_alloc (w.alloc (.cells #[.string ⟨#[]⟩] 9)) _ w.heap.size (by simp)).trans (World.alloc_heap_new _ _)
  have hc := calls_cut s x17 (ht.nw.nwf fa) hs
  have hsz : (Lib.cut s.data.toList [32]).1.length ≤ 1000 := Nat.le_trans (cutL_le _ _).1 (by rw [show s.data.toList.length = s.size from rfl]; exact hs)
  have hsr : (Lib.cut s.data.toList [32]).2.1.length ≤ 1000 := Nat.le_trans (cutL_le _ _).2 (by rw [show s.data.toList.length = s.size from rfl]; exact hs)
  have hlk0 := fun (w2 : World) (f2 : Fr (nwM x17) x17 w2) => (hown.kept (nw_grown f2) (by simp)).look_ok keyS tMap (zeroC w2) rfl (Go.WideMaps.keyOf_string_mk tStr (s := ⟨(Lib.cut s.data.toList [32]).1.toArray⟩) (by rw [mkS_size]; unfold maxLen; omega))
  simp only [has_tab, at_tab] at hlk0
  clear hturn hwm hown
  unfold lineQ
  unfold LineOk at hok
  generalize (Lib.cut s.data.toList [32]).2.1 = rst at *
  generalize (Lib.cut s.data.toList [32]).2.2 = spc at *
  generalize (Lib.cut s.data.toList [32]).1 = wd at *
  cases hT : tabF wd with
  | none =>
    simp only [hT] at hlk0
    clear hok hT
    go_enter_defers Tryz.func47, Tryz.ntmps47
    go_wp2_with (go_at_call 108; refine hc.mono ?_; rintro e w2 ⟨rfl, f2⟩; obtain ⟨lv, lps, hlk, hR⟩ := hlk0 w2 f2; obtain rfl := rC_inv0 hR; clear hR)
    have hbd : w.heap.size < w2.heap.size := Nat.lt_of_lt_of_le (Array.getElem?_eq_some_iff.1 hbox).1 f2.size
    have hb2 : (w2.alloc (.cells #[.bool false, .nilFunc] 127)).heap[w.heap.size]? = some (.cells #[.string ⟨#[]⟩] 9 (0, 0)) := (Below.heap_alloc _ _ _ hbd).trans ((f2.block _ (Array.getElem?_eq_some_iff.1 hbox).1 (Nat.not_le.2 (Array.getElem?_eq_some_iff.1 hbox).1)).trans hbox)
    have fW : Fr (nwM w) w (w2.alloc (.cells #[.bool false, .nilFunc] 127)) := (nw_trans fa f2).trans (fr_grown (World.grownBy_alloc w2 _ none) fun k e => by cases e)
    generalize hW : w2.alloc (.cells #[.bool false, .nilFunc] 127) = W at *
    have hlt : w.heap.size < W.heap.size := (Array.getElem?_eq_some_iff.1 hb2).1
    have hcW : W.cell? ⟨w.heap.size, 0, none⟩ = some (.string ⟨#[]⟩) := by rw [cell_of_row W _ 0 #[.string ⟨#[]⟩] _ (0, 0) hb2]; rfl
    have hzW : W.frozen? ⟨w.heap.size, 0, none⟩ = false := frozen_of_row W _ 0 #[.string ⟨#[]⟩] _ hb2
    refine leaves_cons (f := 107) (args := #[.pointer (some ⟨w.heap.size, 0, none⟩)]) (by simp) (by simp [go_sem]) ?_
    refine (catch_mal ⟨w.heap.size, 0, none⟩ (.string ⟨#[]⟩) [] _ hcW hzW hlt).mono ?_
    rintro e u' w'' ⟨rfl, rfl, o, rfl⟩
    have hcO : (W.alloc o).cell? ⟨w.heap.size, 0, none⟩ = some (.string ⟨#[]⟩) := (World.cell?_of_block (Below.heap_alloc W o _ hlt)).trans hcW
    have fO := fr_box fW o (.string whatB)
    simp [Leaves, settle, results, Tryz.results47, go_sem, hcO]
    exact ⟨rfl, hd.fr fO, hT, fO.nwd⟩
  | some rf =>
    obtain ⟨r, f⟩ := rf
    simp only [hT] at hlk0
    have ew := enters_w hT
    have hok := hok r f hT
    clear hT
    cases hrs : r == spc with
    | false =>
      clear hok
      simp only [hrs, cond_false]
      go_enter_defers Tryz.func47, Tryz.ntmps47
      go_wp2_with (go_at_call 108; refine hc.mono ?_; rintro e w2 ⟨rfl, f2⟩; obtain ⟨lv, lps, hlk, hR⟩ := hlk0 w2 f2; obtain rfl := rC_inv hR; clear hR)
      have hbd : w.heap.size < w2.heap.size := Nat.lt_of_lt_of_le (Array.getElem?_eq_some_iff.1 hbox).1 f2.size
      have hb2 : (w2.alloc (.cells #[.bool r, .func (.func f) #[] #[]] 127)).heap[w.heap.size]? = some (.cells #[.string ⟨#[]⟩] 9 (0, 0)) := (Below.heap_alloc _ _ _ hbd).trans ((f2.block _ (Array.getElem?_eq_some_iff.1 hbox).1 (Nat.not_le.2 (Array.getElem?_eq_some_iff.1 hbox).1)).trans hbox)
      have fW : Fr (nwM w) w (w2.alloc (.cells #[.bool r, .func (.func f) #[] #[]] 127)) := (nw_trans fa f2).trans (fr_grown (World.grownBy_alloc w2 _ none) fun k e => by cases e)
      generalize hW : w2.alloc (.cells #[.bool r, .func (.func f) #[] #[]] 127) = W at *
      have hlt : w.heap.size < W.heap.size := (Array.getElem?_eq_some_iff.1 hb2).1
      have hcW : W.cell? ⟨w.heap.size, 0, none⟩ = some (.string ⟨#[]⟩) := by rw [cell_of_row W _ 0 #[.string ⟨#[]⟩] _ (0, 0) hb2]; rfl
      have hzW : W.frozen? ⟨w.heap.size, 0, none⟩ = false := frozen_of_row W _ 0 #[.string ⟨#[]⟩] _ hb2
      refine leaves_cons (f := 107) (args := #[.pointer (some ⟨w.heap.size, 0, none⟩)]) (by simp) (by simp [go_sem]) ?_
      refine (catch_mal ⟨w.heap.size, 0, none⟩ (.string ⟨#[]⟩) [] _ hcW hzW hlt).mono ?_
      rintro e u' w'' ⟨rfl, rfl, o, rfl⟩
      have hcO : (W.alloc o).cell? ⟨w.heap.size, 0, none⟩ = some (.string ⟨#[]⟩) := (World.cell?_of_block (Below.heap_alloc W o _ hlt)).trans hcW
      have fO := fr_box fW o (.string whatB)
      simp [Leaves, settle, results, Tryz.results47, go_sem, hcO]
      exact ⟨rfl, hd.fr fO, hT, fO.nwd⟩

    | true =>
      obtain rfl := eq_of_beq hrs
      simp only [hrs, cond_true]
      clear hrs
      have hcm := fun (W : World) (h : Desk D L W) (h2 : TabOk (nwD W D) W) => hok rfl (D := D) (L := L) ⟨rst.toArray⟩ h h2 hT (by rw [mkS_size]; exact hsr)
      clear hok
      have hend : ∀ w2, Fr (nwM x17) x17 w2 → ∀ o, w.heap.size < (w2.alloc o).heap.size ∧ (w2.alloc o).heap[w.heap.size]? = some (.cells #[.string ⟨#[]⟩] 9 (0, 0)) ∧ Fr (nwM w) w (w2.alloc o) := fun w2 f2 o => by
        have hbd : w.heap.size < w2.heap.size := Nat.lt_of_lt_of_le (Array.getElem?_eq_some_iff.1 hbox).1 f2.size
        refine ⟨by simp; omega, (Below.heap_alloc _ _ _ hbd).trans ((f2.block _ (Array.getElem?_eq_some_iff.1 hbox).1 (Nat.not_le.2 (Array.getElem?_eq_some_iff.1 hbox).1)).trans hbox), (nw_trans fa f2).trans (fr_grown (World.grownBy_alloc w2 _ none) fun k e => by cases e)⟩
      clear hbox fa
      have hDlt := hd.lt
      have hfin : ∀ w2 W o, Fr (nwM x17) x17 w2 → Fr (nwD (w2.alloc o) D) (w2.alloc o) W → w.heap.size < W.heap.size ∧ W.heap[w.heap.size]? = some (.cells #[.string ⟨#[]⟩] 9 (0, 0)) ∧ Fr (nwD w D) w W := fun w2 W o f2 f3 => by
        obtain ⟨e1, e2, e3⟩ := hend w2 f2 o
        refine ⟨Nat.lt_of_lt_of_le e1 f3.size, (f3.block _ e1 fun h => h.elim (fun h => by omega) (fun h => by omega)).trans e2, e3.nwd.trans (f3.mono fun k _ h => h.elim (fun x => .inl (Nat.le_trans e3.size x)) .inr)⟩
      have hcell : ∀ W : World, W.heap[w.heap.size]? = some (.cells #[.string ⟨#[]⟩] 9 (0, 0)) → W.cell? ⟨w.heap.size, 0, none⟩ = some (.string ⟨#[]⟩) ∧ W.frozen? ⟨w.heap.size, 0, none⟩ = false := fun W hb2 => ⟨by rw [cell_of_row W _ 0 #[.string ⟨#[]⟩] _ (0, 0) hb2]; rfl, frozen_of_row W _ 0 #[.string ⟨#[]⟩] _ hb2⟩
      cases hS : Sg wd L rst with
      | none =>
        simp only [hS] at hcm ⊢
        clear hS
        go_enter_defers Tryz.func47, Tryz.ntmps47
        go_wp2_with (first | (go_at_call 108; refine hc.mono ?_; rintro e w2 ⟨rfl, f2⟩; obtain ⟨lv, lps, hlk, hR⟩ := hlk0 w2 f2; obtain rfl := rC_inv hR; clear hR) | (refine (hcm _ (hd.fr (hend _ ‹_› _).2.2) (ht.nwg (hend _ ‹_› _).2.2.nwd)).mono ?_; rintro e W h5; obtain ⟨rfl, h6⟩ := h5.none_eq))
        obtain ⟨hlt, hb2, fW⟩ := hfin _ _ _ f2 h6.1
        have hcW : W.cell? ⟨w.heap.size, 0, none⟩ = some (.string ⟨#[]⟩) := by rw [cell_of_row W _ 0 #[.string ⟨#[]⟩] _ (0, 0) hb2]; rfl
        have hzW : W.frozen? ⟨w.heap.size, 0, none⟩ = false := frozen_of_row W _ 0 #[.string ⟨#[]⟩] _ hb2
        refine leaves_cons (f := 107) (args := #[.pointer (some ⟨w.heap.size, 0, none⟩)]) (by simp) (by simp [go_sem]) ?_
        refine (catch_ref ⟨w.heap.size, 0, none⟩ (.string ⟨#[]⟩) [] _ hcW hzW hlt).mono ?_
        rintro e u' w'' ⟨rfl, rfl, o, rfl⟩
        have hcO : (W.alloc o).cell? ⟨w.heap.size, 0, none⟩ = some (.string ⟨#[]⟩) := (World.cell?_of_block (Below.heap_alloc W o _ hlt)).trans hcW
        have fO := fr_boxD fW o (.string noB)
        have dO := (h6.2.2.fr (fr_grown (World.grownBy_alloc W o none) fun k e => by cases e)).box (y := .string noB) ((Below.heap_alloc W o _ hlt).trans hb2) (Nat.ne_of_gt hDlt)
        simp [Leaves, settle, results, Tryz.results47, go_sem, hcO]
        exact ⟨rfl, dO, hT, fO⟩
      | some x =>
        obtain ⟨T, t⟩ := x
        simp only [hS] at hcm ⊢
        clear hS
        go_enter_defers Tryz.func47, Tryz.ntmps47
        go_wp2_with (first | (go_at_call 108; refine hc.mono ?_; rintro e w2 ⟨rfl, f2⟩; obtain ⟨lv, lps, hlk, hR⟩ := hlk0 w2 f2; obtain rfl := rC_inv hR; clear hR) | (refine (hcm _ (hd.fr (hend _ ‹_› _).2.2) (ht.nwg (hend _ ‹_› _).2.2.nwd)).mono ?_; rintro e W h5; obtain ⟨rfl, h6⟩ := h5.some_eq; clear h5; obtain ⟨hlt, hb2, fW⟩ := hfin _ _ _ ‹_› h6.1; obtain ⟨hcW, hzW⟩ := hcell W hb2))
        refine leaves_cons (f := 107) (args := #[.pointer (some ⟨w.heap.size, 0, none⟩)]) (by simp) (by simp [go_sem]) ?_
        refine (catch_idle ⟨w.heap.size, 0, none⟩ _).mono ?_
        rintro e u' w'' ⟨rfl, rfl, rfl⟩
        have fO := fr_setD fW (.string ⟨t.toArray⟩)
        have dO := h6.2.2.1.box (y := .string ⟨t.toArray⟩) hb2 (Nat.ne_of_gt hDlt)
        simp [Leaves, settle, results, Tryz.results47, go_sem, hcW]
        exact ⟨rfl, dO, h6.2.2.2, fO⟩
end Go.Proofs.YtddhmidegldhdaaGreatDoor

/- strings.Builder at the world: what is written, what it holds. Conditions: its length. -/
namespace Go.Proofs.YtddhmidegldhdaaGreatDoor
open Go.RowKit Go.Shelf
set_option maxRecDepth 100000

def Built (b : Nat) (l : List UInt8) (w : World) : Prop := Lib.IsBuilderF 70 5 b b (Lib.byteCells l) w
theorem Built.lt {b : Nat} {l : List UInt8} {w : World} (h : Built b l w) : b < w.heap.size := h.elim (fun h => h.lt) fun h => h.lt
theorem Built.new (w : World) : Built w.heap.size [] (w.alloc (.cells #[.pointer none, .slice none 0 0] 70)) := Lib.IsBuilderF.of (Lib.fresh_isBuilder _ _ w)
theorem built_kept {b : Nat} {p : Value} {l : List Value} {w w' : World} (h : Lib.BuilderAtF 70 5 b b p l w) (hk : ∀ (k : Nat) (c : Array Value) (fz : Nat × Nat), (w.heap[k]? = some (.cells c 70 fz) ∨ w.heap[k]? = some (.cells c 5 fz)) → w'.heap[k]? = w.heap[k]?) : Lib.BuilderAtF 70 5 b b p l w' := by
  obtain ⟨hB, v, hb, ⟨h1, h2⟩, hne⟩ := h
  refine ⟨hB, v, (hk _ _ _ (.inl hb)).trans hb, ⟨h1, ?_⟩, hne⟩
  rcases h2 with h2 | ⟨g, cap, cur, fz, e1, e2, e3, e4⟩
  · exact .inl h2
  · exact .inr ⟨g, cap, cur, fz, e1, e2, (hk _ _ _ (.inr e3)).trans e3, e4⟩
theorem Built.kept {b : Nat} {l : List UInt8} {w w' : World} (h : Built b l w) (hk : ∀ (k : Nat) (c : Array Value) (fz : Nat × Nat), (w.heap[k]? = some (.cells c 70 fz) ∨ w.heap[k]? = some (.cells c 5 fz)) → w'.heap[k]? = w.heap[k]?) : Built b l w' :=
  h.elim (fun h => .inl (built_kept h hk)) fun h => .inr (built_kept h hk)
def BFr (b : Nat) (w w' : World) : Prop := Below b w w' ∧ Lib.OthersKept 5 (some b) w w'
theorem calls_ws {b : Nat} {l : List UInt8} {w : World} (s : ByteArray) (h : Built b l w) (hl : l.length + s.size ≤ 140737488355328) :
    Calls Tryz.prog 46 #[.pointer (some ⟨b, 0, none⟩), .string s] w fun e w' => e = .returned (.tuple #[.int .i64 s.size, .nilIface]) ∧ Built b (l ++ s.data.toList) w' ∧ BFr b w w' := by
  refine (Any.Builder_WriteString_k { Tryz.lays156 with } Tryz.extra156 b b _ s w h (by rw [Lib.byteCells_length]; exact hl) (Nat.le_of_lt h.lt)).mono ?_
  rintro e w' ⟨rfl, h1, h2, h3⟩
  refine ⟨rfl, ?_, h2, h3⟩
  rw [Lib.strCells_eq, ← Lib.byteCells_append] at h1
  exact .inr h1
theorem calls_wl {b : Nat} {l : List UInt8} {w : World} (x : List UInt8) (h : Built b l w) (hl : l.length + x.length ≤ 100000000) :
    Calls Tryz.prog 46 #[.pointer (some ⟨b, 0, none⟩), .string ⟨x.toArray⟩] w fun e w' => ∃ v, e = .returned v ∧ Built b (l ++ x) w' ∧ BFr b w w' :=
  (calls_ws ⟨x.toArray⟩ h (by rw [mkS_size]; exact Nat.le_trans hl (by decide))).mono fun _ _ h => ⟨_, h.1, h.2⟩
theorem calls_bs {b : Nat} {l : List UInt8} {w : World} (h : Built b l w) :
    Calls Tryz.prog 49 #[.pointer (some ⟨b, 0, none⟩)] w fun e w' => e = .returned (.string ⟨l.toArray⟩) ∧ BFr b w w' := by
  refine (Any.Builder_String_any_k { Tryz.lays156 with } Tryz.extra156 b b l w h (Nat.le_of_lt h.lt)).mono ?_
  rintro e w' ⟨rfl, _, h2, h3⟩
  exact ⟨rfl, h2, h3⟩
theorem BFr.desk {b D : Nat} {L : List Wh} {w w' : World} (h : BFr b w w') (hD : D < b) (hb : ¬ Wrow w b) (hd : Desk D L w) : Desk D L w' := by
  obtain ⟨p, n, c, h1, h2⟩ := hd
  refine ⟨p, n, c, (h.1.block D hD).trans h1, h2.kept h.1.size fun k _ ⟨l, fz, hk⟩ => ?_⟩
  rw [hk]
  exact h.2 k _ hk (fun e => hb (by cases e; exact ⟨_, _, hk⟩)) fun c fz' e => by
    simp only [Obj.cells.injEq] at e
    exact absurd e.2.1 (by decide)
theorem Built.ne {b : Nat} {l : List UInt8} {w : World} (h : Built b l w) : ¬ Wrow w b := fun ⟨c, fz, hk⟩ => by
  rcases h with ⟨_, v, hb, _⟩ | ⟨_, v, hb, _⟩
  · rw [hk] at hb
    simp only [Option.some.injEq, Obj.cells.injEq] at hb
    exact absurd hb.2.1 (by decide)
  · rw [hk] at hb
    simp only [Option.some.injEq, Obj.cells.injEq] at hb
    exact absurd hb.2.1 (by decide)
theorem Built.fr {b D : Nat} {l : List UInt8} {w w' : World} (h : Built b l w) (hd : ∃ c fz, w.heap[D]? = some (.cells c 67 fz)) (f : Fr (nwD w D) w w') : Built b l w' := by
  refine h.kept fun k c fz hk => f.block k ?_ fun hm => ?_
  · rcases hk with hk | hk <;> exact (Array.getElem?_eq_some_iff.1 hk).1
  · have hlt : k < w.heap.size := by rcases hk with hk | hk <;> exact (Array.getElem?_eq_some_iff.1 hk).1
    rcases hm with hm | rfl
    · exact absurd hm (Nat.not_le.2 hlt)
    · obtain ⟨c', fz', hd⟩ := hd
      rcases hk with hk | hk
      · rw [hd] at hk
        simp only [Option.some.injEq, Obj.cells.injEq] at hk
        exact absurd hk.2.1 (by decide)
      · rw [hd] at hk
        simp only [Option.some.injEq, Obj.cells.injEq] at hk
        exact absurd hk.2.1 (by decide)
end Go.Proofs.YtddhmidegldhdaaGreatDoor

/- Execute: a session. Conditions: the lines' words are at hand; the length of what is printed. -/
namespace Go.Proofs.YtddhmidegldhdaaGreatDoor
open Go.RowKit Go.Shelf
set_option maxRecDepth 100000

def sessQ (Sg : CmdT) (x : List Wh × List UInt8) (line : List UInt8) : List Wh × List UInt8 := ((lineQ Sg x.1 line).1, x.2 ++ ((lineQ Sg x.1 line).2 ++ [10]))
def exQ (Sg : CmdT) (ls : List (List UInt8)) : List Wh × List UInt8 := ls.foldl (sessQ Sg) ([], [])
def linesQ (s : List UInt8) : List (List UInt8) := (cuC 10 s).dropLast
def endQ (x : List Wh × List UInt8) : List UInt8 := x.2 ++ ([119, 104, 101, 101, 108, 115, 32] ++ (Lib.itoa x.1.length ++ [10]))
theorem exQ_snoc (Sg : CmdT) (ls : List (List UInt8)) (l : List UInt8) : exQ Sg (ls ++ [l]) = sessQ Sg (exQ Sg ls) l := by
  unfold exQ
  rw [List.foldl_append]
  rfl
theorem tab_later {w w' : World} {D : Nat} (h : TabOk (nwM w) w) (f : Fr (nwM w) w w') (hD : w.heap.size ≤ D) : TabOk (nwD w' D) w' :=
  (h.fr f).mono fun _ _ hk => hk.elim (fun x => Nat.le_trans f.size x) (fun e => e ▸ hD)
theorem BFr.fr {b : Nat} {w0 w w' : World} (h : BFr b w w') (hb : w0.heap.size ≤ b) (f : Fr (nwM w0) w0 w) : Fr (nwM w0) w0 w' :=
  f.trans ⟨h.1.os, h.1.tape, h.1.output, h.1.size, fun k _ hm => h.1.block k (Nat.lt_of_lt_of_le (Nat.not_le.1 hm) hb)⟩
theorem cuC_length (c : UInt8) : ∀ l : List UInt8, (cuC c l).length ≤ l.length + 1
  | [] => by simp [cuC]
  | b :: l => by
    have ih := cuC_length c l
    unfold cuC
    rw [List.length_cons]
    split
    · rw [List.length_cons]; omega
    · split
      · rename_i x xs e
        rw [e, List.length_cons] at ih
        rw [List.length_cons]
        omega
      · simp
def rowO (ws : List (List UInt8)) : Obj := .cells ((ws.map fun l => (⟨l.toArray⟩ : ByteArray)).map Value.string).toArray 9
theorem rowO_cell {ws : List (List UInt8)} {w : World} {G : Nat} (h : w.heap[G]? = some (rowO ws)) (j : Nat) (hj : j < ws.length) : w.cell? ⟨G, j, none⟩ = some (.string ⟨ws[j].toArray⟩) := by
  unfold World.cell?
  simp only
  rw [h]
  simp [rowO, hj]
theorem row_world {w w1 : World} {ws : List (List UInt8)} (h : w1 = w.alloc (.cells ((ws.map fun l => (⟨l.toArray⟩ : ByteArray)).map Value.string).toArray 9)) : Fr (nwM w) w w1 ∧ w1.heap[w.heap.size]? = some (rowO ws) := by
  subst h
  exact ⟨fr_grown (World.grownBy_alloc w _ none) (fun k e => by cases e), World.alloc_heap_new _ _⟩
theorem rowO_ne (ws : List (List UInt8)) (c : Array Value) (fz : Nat × Nat) : rowO ws ≠ .cells c 5 fz := fun e => by
  simp only [rowO, Obj.cells.injEq] at e
  exact absurd e.2.1 (by decide)
theorem bytes_app (a b : List UInt8) : ((⟨a.toArray⟩ : ByteArray) ++ ⟨b.toArray⟩) = ⟨(a ++ b).toArray⟩ := by
  apply ByteArray.ext
  simp [ByteArray.data_append]
set_option maxHeartbeats 8000000 in
theorem calls_sess {Sg : CmdT} (s : ByteArray) {w : World} (ht : TabOk (nwM w) w) (hs : s.size ≤ 900) (hok : ∀ l ∈ linesQ s.data.toList, LineOk Sg l) (hlen : ∀ k, (exQ Sg ((linesQ s.data.toList).take k)).2.length ≤ 90000000) (hL : ∀ k, (exQ Sg ((linesQ s.data.toList).take k)).1.length ≤ 100000) :
    Calls Tryz.prog 15 #[.string s] w (VPost w (.string ⟨(endQ (exQ Sg (linesQ s.data.toList))).toArray⟩)) := by
  have mixed := mixed
  have hs1 : (s.size : Int) ≤ 900 := by omega
  obtain ⟨W0, hW0⟩ : ∃ W0, (w.alloc (.cells #[.slice none 0 0] 67)).alloc (.cells #[.pointer none, .slice none 0 0] 70) = W0 := ⟨_, rfl⟩
  have f0 : Fr (nwM w) w W0 := hW0 ▸ (nw_trans (fr_grown (World.grownBy_alloc w _ none) fun k e => by cases e) (fr_grown (World.grownBy_alloc _ _ none) fun k e => by cases e))
  have hd0 : Desk w.heap.size [] W0 := by
    refine ⟨none, 0, 0, ?_, ReadsW.nil _⟩
    rw [← hW0, Below.heap_alloc _ _ _ (by simp)]
    exact World.alloc_heap_new _ _
  have hb0 : Built (w.heap.size + 1) [] W0 := by
    have := Built.new (w.alloc (.cells #[.slice none 0 0] 67))
    rw [hW0] at this
    simpa using this
  have hz0 : w.heap.size + 1 < W0.heap.size := by rw [← hW0]; simp
  obtain ⟨m, hm⟩ := tab_num (ht.nwf f0)
  have hsp := Any.strings_Split { Tryz.laysSplit with } Tryz.laysSplit.i9 s ⟨#[10]⟩ m W0 (by omega) hm (by decide)
  have hl := spB_length s ⟨#[10]⟩ (by decide)
  have hcu := spB_cuC s 10
  rw [show Lib.splitB ⟨#[10]⟩ 0 (Lib.countB s ⟨#[10]⟩) s = spB s ⟨#[10]⟩ from rfl, ← hl, hcu, List.length_map] at hsp
  have hne : cuC 10 s.data.toList ≠ [] := cuC_ne _ _
  have hwl : (cuC 10 s.data.toList).length ≤ 901 := Nat.le_trans (cuC_length 10 _) (by rw [show s.data.toList.length = s.size by rw [Array.length_toList]; rfl]; omega)
  have hwz : ∀ x ∈ cuC 10 s.data.toList, x.length ≤ 1000 := fun x hx => by
    have := cuC_sizes _ x hx
    have e : s.data.toList.length = s.size := by rw [Array.length_toList]; rfl
    omega
  unfold linesQ at *
  generalize cuC 10 s.data.toList = ws at *
  obtain ⟨n, hn⟩ : ∃ n, ws.length = n + 1 := ⟨ws.length - 1, by have := List.length_pos_iff.2 hne; omega⟩
  rw [hn] at hsp
  have hn1 : (n : Int) ≤ 900 := by omega
  clear hl hcu hm
  go_enter Tryz.func15, Tryz.ntmps15
  go_wp2_with (go_at_call 45; refine hsp.mono ?_; rintro e w1 ⟨rfl, hw1⟩; obtain ⟨f1, c1⟩ := row_world hw1; clear hw1)
  obtain ⟨G, hG⟩ : ∃ G, G = W0.heap.size := ⟨_, rfl⟩
  have hGz : w.heap.size + 1 < G := by omega
  rw [← hG] at c1 ⊢
  have hd1 := hd0.fr f1
  have hb1 := hb0.fr (D := w.heap.size) (by obtain ⟨p, n, c, h, _⟩ := hd0; exact ⟨_, _, h⟩) f1.nwd
  have fw1 := nw_trans f0 f1
  clear hsp hd0 hb0 f0 f1 hz0 hW0 hG
  go_loopw [21] (fun i wr => ∃ (k : Nat) (X : List Wh × List UInt8), k ≤ n ∧ i = .int .i64 k ∧ X = exQ Sg (ws.dropLast.take k) ∧ Desk w.heap.size X.1 wr ∧ isTidy X.1 ∧ Built (w.heap.size + 1) X.2 wr ∧ Fr (nwM w) w wr ∧ wr.heap[G]? = some (rowO ws)) (fun i _ => n - (intOf i).toNat)
  case atStart => exact ⟨0, ([], []), Nat.zero_le _, rfl, rfl, hd1, isTidy_nil, hb1, fw1, c1⟩
  case round =>
    obtain ⟨k, X, hk, rfl, hX, hd, hT, hb, fr, cr⟩ := hrel
    by_cases hlt : k < n
    · have hkw : k < ws.length := by omega
      have hkl : k < ws.dropLast.length := by rw [List.length_dropLast]; omega
      have hc := rowO_cell cr k hkw
      have hln : ws.dropLast[k] = ws[k] := List.getElem_dropLast _
      have hX1 : exQ Sg (ws.dropLast.take (k + 1)) = sessQ Sg X ws[k] := by rw [List.take_succ_eq_append_getElem hkl, exQ_snoc, ← hX, hln]
      have hlk := hlen (k + 1)
      rw [hX1] at hlk
      have ha := calls_answer ⟨ws[k].toArray⟩ hd (tab_later ht fr (Nat.le_refl _)) hT (by rw [mkS_size]; exact hwz _ (List.getElem_mem hkw)) (hok _ (by rw [← hln]; exact List.getElem_mem hkl))
      have hlt2 : (k : Int) < n := by omega
      rw [show (ByteArray.mk ws[k].toArray).data.toList = ws[k] from rfl] at ha
      unfold sessQ at hX1 hlk
      generalize lineQ Sg X.1 ws[k] = y at *
      obtain ⟨T, t⟩ := y
      have hyl : t.length + 1 ≤ 100000000 := by simp at hlk; omega
      generalize ws[k] = l at *
      clear hok hlen hL hwl hwz hln hX
      have mid : ∀ w2, Fr (nwD wr w.heap.size) wr w2 → Built (w.heap.size + 1) X.2 w2 := fun w2 f2 => hb.fr (by obtain ⟨p, n, c, h, _⟩ := hd; exact ⟨_, _, h⟩) f2
      have next : ∀ w2 w3, Desk w.heap.size T w2 → isTidy T → Fr (nwD wr w.heap.size) wr w2 → Built (w.heap.size + 1) (X.2 ++ (t ++ [10])) w3 → BFr (w.heap.size + 1) w2 w3 → ∃ (k' : Nat) (X' : List Wh × List UInt8), k' ≤ n ∧ Value.int .i64 ((k : Int) + 1) = .int .i64 k' ∧ X' = exQ Sg (ws.dropLast.take k') ∧ Desk w.heap.size X'.1 w3 ∧ isTidy X'.1 ∧ Built (w.heap.size + 1) X'.2 w3 ∧ Fr (nwM w) w w3 ∧ w3.heap[G]? = some (rowO ws) := fun w2 w3 d2 t2 f2 b3 f3 => by
        refine ⟨k + 1, (T, X.2 ++ (t ++ [10])), by omega, by simp, hX1.symm, f3.desk (by omega) (mid w2 f2).ne d2, t2, b3, ?_, ?_⟩
        · exact f3.fr (by omega) (fr.trans (f2.mono fun k _ h => h.elim (fun x => Nat.le_trans fr.size x) (fun e => Nat.le_of_eq e.symm)))
        · refine f3.2 G _ ((f2.block G (Array.getElem?_eq_some_iff.1 cr).1 fun h => h.elim (fun h => absurd h (Nat.not_le.2 (Array.getElem?_eq_some_iff.1 cr).1)) fun h => by omega).trans cr) (fun e => by simp only [Option.some.injEq] at e; omega) (rowO_ne ws)
      have hws : ∀ w2, Fr (nwD wr w.heap.size) wr w2 → Calls Tryz.prog 46 #[.pointer (some ⟨w.heap.size + 1, 0, none⟩), .string ((⟨t.toArray⟩ : ByteArray) ++ ⟨#[10]⟩)] w2 fun e w' => ∃ v, e = .returned v ∧ Built (w.heap.size + 1) (X.2 ++ (t ++ [10])) w' ∧ BFr (w.heap.size + 1) w2 w' := fun w2 f2 => by
        rw [bytes_app t [10]]
        exact calls_wl (t ++ [10]) (mid w2 f2) (by rw [List.length_append] at hlk; exact Nat.le_trans hlk (by decide))
      clear mid hX1 hd hb hT fr cr ht fw1 hGz hlk
      go_wp2_with (first | (go_at_call 47; refine ha.mono ?_; rintro e w2 ⟨rfl, d2, t2, f2⟩) | (go_at_call 46; refine (hws _ ‹_›).mono ?_; rintro e w3 ⟨v, rfl, b3, f3⟩; obtain hinv := next _ _ d2 t2 f2 b3 f3))
      exact ⟨hinv, by simp [intOf]; omega⟩
    · have hkn : k = n := by omega
      subst hkn
      rw [List.take_of_length_le (by rw [List.length_dropLast]; omega)] at hX
      have hlk := hlen k
      have hLk := hL k
      rw [List.take_of_length_le (by rw [List.length_dropLast]; omega), ← hX] at hlk hLk
      obtain ⟨L, out⟩ := X
      have hlk : out.length ≤ 90000000 := hlk
      have hLk : L.length ≤ 100000 := hLk
      obtain ⟨p, n0, c, hq, hr⟩ := id hd
      obtain ⟨p', n', c', hv⟩ := hr.slice
      have hnl : n0 = L.length := by
        obtain ⟨ν, _, hv, _⟩ := hr
        simp only [VR] at hv
        obtain ⟨_, _, e, _⟩ := hv
        cases e
        rfl
      subst hnl
      have c0 : wr.cell? ⟨w.heap.size, 0, none⟩ = some (.slice p L.length c) := by rw [cell_of_row wr w.heap.size 0 #[.slice p L.length c] _ (0, 0) hq]; rfl
      have hsh := itoa_short L.length (by omega) (by omega)
      have hdb : ((decB L.length).size : Int) ≤ 20 := by rw [show (decB L.length).size = (Lib.itoa L.length).length by unfold decB; rw [mkS_size]]; omega
      have hit := calls_itoa L.length wr (ht.nwf fr) (by omega) (by omega)
      have hws : ∀ w2, Fr (nwM wr) wr w2 → Calls Tryz.prog 46 #[.pointer (some ⟨w.heap.size + 1, 0, none⟩), .string ((⟨#[119, 104, 101, 101, 108, 115, 32]⟩ : ByteArray) ++ decB L.length ++ ⟨#[10]⟩)] w2 fun e w' => ∃ v, e = .returned v ∧ (Built (w.heap.size + 1) (endQ (L, out)) w' ∧ Fr (nwM w) w w') := fun w2 f2 => by
        have hb2 := hb.fr (D := w.heap.size) ⟨_, _, hq⟩ f2.nwd
        have e1 : (⟨#[119, 104, 101, 101, 108, 115, 32]⟩ : ByteArray) ++ decB L.length ++ ⟨#[10]⟩ = ⟨([119, 104, 101, 101, 108, 115, 32] ++ (Lib.itoa L.length ++ [10])).toArray⟩ := by
          rw [show decB L.length = ⟨(Lib.itoa L.length).toArray⟩ from rfl, show (⟨#[119, 104, 101, 101, 108, 115, 32]⟩ : ByteArray) = ⟨([119, 104, 101, 101, 108, 115, 32] : List UInt8).toArray⟩ from rfl, show (⟨#[10]⟩ : ByteArray) = ⟨([10] : List UInt8).toArray⟩ from rfl, bytes_app, bytes_app, List.append_assoc]
        rw [e1]
        refine (calls_wl _ hb2 ?_).mono ?_
        · simp only [List.length_append, List.length_cons, List.length_nil]
          omega
        · rintro e w' ⟨v, rfl, h1, h2⟩
          exact ⟨v, rfl, h1, h2.fr (by omega) (nw_trans fr f2)⟩
      have hbs : ∀ w3, Built (w.heap.size + 1) (endQ (L, out)) w3 → Fr (nwM w) w w3 → Calls Tryz.prog 49 #[.pointer (some ⟨w.heap.size + 1, 0, none⟩)] w3 (VPost w (.string ⟨(endQ (L, out)).toArray⟩)) := fun w3 h3 f3 => by
        refine (calls_bs h3).mono ?_
        rintro e w' ⟨rfl, h⟩
        exact ⟨rfl, h.fr (by omega) f3⟩
      have hfin : ∀ _ : Unit, endQ (exQ Sg ws.dropLast) = endQ (L, out) := fun _ => by rw [← hX]
      clear hd hb hT hX hlk cr hq hr hv hok hlen hL hwl hwz ht hsh fw1 c1 hn
      generalize endQ (L, out) = r at *
      generalize decB L.length = q at *
      go_wp2_with (first | (go_at_call 48; refine hit.mono ?_; rintro e w2 ⟨rfl, f2⟩) | (go_at_call 46; refine (hws _ ‹_›).mono ?_; rintro e w3 ⟨v, rfl, b3, f3⟩) | (go_at_call 49; refine (hbs _ ‹_› ‹_›).mono ?_; rintro e w4 ⟨rfl, f4⟩))
      rw [hfin ()]
      go_ret
      exact ⟨rfl, f4⟩
end Go.Proofs.YtddhmidegldhdaaGreatDoor
