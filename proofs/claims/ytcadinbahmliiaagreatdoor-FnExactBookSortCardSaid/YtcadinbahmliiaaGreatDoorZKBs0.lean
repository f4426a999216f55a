/- The laws' helpers on lists of entries: trees. Conditions: entries. -/
import Derived.Test.YtcadinbahmliiaaGreatDoorZD0
import Derived.Test.YtcadinbahmliiaaGreatDoorZD1
import Derived.Test.YtcadinbahmliiaaGreatDoorZD2
import Derived.Test.YtcadinbahmliiaaGreatDoorZD3
import Derived.Test.YtcadinbahmliiaaGreatDoorZD4
import Derived.Test.YtcadinbahmliiaaGreatDoorZD5
import Derived.Test.YtcadinbahmliiaaGreatDoorZD6
import Derived.Test.YtcadinbahmliiaaGreatDoorZD7
import Derived.Test.YtcadinbahmliiaaGreatDoorZD8
import Derived.StillTail
import Derived.RowKit3
import Derived.Below
import Derived.DeepKeys4
import Derived.Maps.Own
import Derived.Maps.Range
import Derived.RangeFuncSeq
import Derived.Shelf.SlSortCmp.NoneTotal
import Derived.Shelf.SlLaysF0
import Derived.Shelf.Abstract
import Derived.Shelf.AbstractIn
import Derived.RangeFuncStops
import Derived.Sort.MapsRangeIn
import Derived.WalkKit
import Derived.OwnWalkIn
import Derived.TacticsInMore
import Derived.RegionIn
import Derived.LoopNIn
import Derived.LoopIn
import Derived.Carry
/- Regions whose order is left open, walked once in the order of the text: every operation of the head comes to one value and keeps an invariant of the world, in whatever order; the tail is forced. For every program whose orders are mixed. -/
namespace Go.Proofs.YtcadinbahmliiaaGreatDoor
open Go.RowKit

def NoQ : Exit → Act → World → Prop := fun _ _ _ => False

theorem noq_out : ¬ LetsOut NoQ := fun ⟨_, _, h⟩ => h

section
variable {P : Program} {ops : Array Oper} {md : Region.Mode} {I : World → Prop}

def Goes (P : Program) (I : World → Prop) (N : Nat) (dst : Option Tmp) (v : Value) : Result Next → Prop
  | .ok (.value u) w' => (∀ d, dst = some d → d < N → u = v) ∧ I w'
  | .ok .skip w' => (∀ d, dst = some d → d < N → undef = v) ∧ I w'
  | .ok (.enter f args) w' => Calls P f args w' fun e w'' => ∃ u, e = .returned u ∧ (∀ d, dst = some d → d < N → u = v) ∧ I w''
  | .ok (.row row args) w' => Rows P row args w' fun u w'' => (∀ d, dst = some d → d < N → u = v) ∧ I w''
  | _ => False

theorem put_congr {a : Act} {N : Nat} (hN : a.tmps.size = N) {dst : Option Tmp} {u v : Value} (h : ∀ d, dst = some d → d < N → u = v) : a.put dst u = a.put dst v := by
  cases dst with
  | none => rfl
  | some d =>
    by_cases hd : d < N
    · rw [h d rfl hd]
    · have h1 : a.tmps.size ≤ d := by rw [hN]; exact Nat.le_of_not_lt hd
      simp only [Act.put]
      rw [Array.setIfInBounds_eq_of_size_le h1, Array.setIfInBounds_eq_of_size_le h1]

theorem put_size (a : Act) (dst : Option Tmp) (v : Value) : (a.put dst v).tmps.size = a.tmps.size := by
  cases dst <;> simp [Act.put]

def Sure (P : Program) (ops : Array Oper) (I : World → Prop) (o : Oper) (v : Value) (a : Act) : Prop :=
  (Region.wanted o (yielded ops a.tmps) = true ∧ ∀ w, I w → Goes P I a.tmps.size o.dst v ((execOp a.eval o).run P w)) ∨
  (Region.wanted o (yielded ops a.tmps) = false ∧ v = undef)

theorem Sure.of_same {o : Oper} {v : Value} {a a' : Act} (hy : Sure P ops I o v a) (hs : a'.tmps.size = a.tmps.size) (he : execOp a'.eval o = execOp a.eval o)
    (hw : Region.wanted o (yielded ops a'.tmps) = Region.wanted o (yielded ops a.tmps)) : Sure P ops I o v a' := by
  unfold Sure at *
  rw [he, hw, hs]
  exact hy

theorem Sure.wpOp {i : Nat} {o : Oper} {v : Value} {a : Act} {w : World} {Q : Exit → Act → World → Prop} {K : Act → World → Prop} (hi : ops[i]? = some o) (hy : Sure P ops I o v a) (hI : I w)
    (hK : ∀ w', I w' → K (a.put o.dst v) w') : Go.wpOp P ops Q i K a w := by
  unfold Go.wpOp
  simp only [hi]
  rcases hy with ⟨hw, hg⟩ | ⟨hw, rfl⟩
  · simp only [hw, if_true]
    refine .inl ?_
    have hg := hg w hI
    unfold Oper.wp
    generalize (execOp a.eval o).run P w = r at *
    cases r with
    | ok x w' =>
      cases x <;> simp only [Goes] at hg <;> simp only [Oper.upon]
      case value u => rw [put_congr rfl hg.1]; exact hK _ hg.2
      case skip => rw [put_congr rfl hg.1]; exact hK _ hg.2
      case enter f args =>
        refine hg.mono ?_
        rintro e w'' ⟨u, rfl, hu, hI'⟩
        simp only
        rw [put_congr rfl hu]; exact hK _ hI'
      case row row args =>
        refine hg.mono ?_
        rintro u w'' ⟨hu, hI'⟩
        rw [put_congr rfl hu]; exact hK _ hI'
    | halt x w' => simp only [Goes] at hg
  · simp only [hw, Bool.false_eq_true, if_false]
    exact hK w hI

def wpSure (P : Program) (ops : Array Oper) (I : World → Prop) (Q : Act → Prop) : List Oper → Act → Prop
  | [], a => Q a
  | o :: rest, a => ∃ v, Sure P ops I o v a ∧ wpSure P ops I Q rest (a.put o.dst v)

theorem sure_nil {Q : Act → Prop} {a : Act} (h : Q a) : wpSure P ops I Q [] a := h

def slotOf (dst : Option Tmp) (a' : Act) : Value := match dst with | none => undef | some d => a'.tmps.getD d undef

theorem slotOf_put {a : Act} {dst : Option Tmp} {u : Value} : ∀ d, dst = some d → d < a.tmps.size → u = slotOf dst (a.put dst u) := by
  rintro d rfl hd
  simp [slotOf, Act.put, hd]

theorem goes_of_wp {o : Oper} {a a' : Act} {w : World} (hd : a'.defers = a.defers) (h : o.wp P a w (fun x w' => x = a' ∧ I w') NoQ) :
    Goes P I a.tmps.size o.dst (slotOf o.dst a') ((execOp a.eval o).run P w) ∧ ∃ u, a' = a.put o.dst u := by
  unfold Oper.wp at h
  generalize (execOp a.eval o).run P w = r at *
  cases r with
  | ok x w' =>
    cases x <;> simp only [Oper.upon] at h <;> simp only [Goes]
    case value u => obtain ⟨rfl, hI⟩ := h; exact ⟨⟨slotOf_put, hI⟩, u, rfl⟩
    case skip => obtain ⟨rfl, hI⟩ := h; exact ⟨⟨slotOf_put, hI⟩, _, rfl⟩
    case defer d =>
      obtain ⟨rfl, hI⟩ := h
      exfalso
      have : ∀ (x : Act) (dst : Option Tmp) (v : Value), (x.put dst v).defers = x.defers := fun x dst v => by cases dst <;> rfl
      rw [this] at hd
      have := congrArg List.length hd
      simp at this
    case enter f args =>
      refine ⟨h.mono fun e w'' hR => ?_, ?_⟩
      · cases e with
        | returned u => obtain ⟨rfl, hI⟩ := hR; exact ⟨u, rfl, slotOf_put, hI⟩
        | panicked c => exact hR.elim
        | outgrown => exact (noq_out hR).elim
      · obtain ⟨e, w'', fr, hR, _⟩ := h []
        cases e with
        | returned u => exact ⟨u, hR.1.symm⟩
        | panicked c => exact hR.elim
        | outgrown => exact (noq_out hR).elim
    case row row args =>
      refine ⟨h.mono fun u w'' hR => ?_, ?_⟩
      · obtain ⟨rfl, hI⟩ := hR; exact ⟨slotOf_put, hI⟩
      · obtain ⟨u, w'', hR, _⟩ := h default []
        exact ⟨u, hR.1.symm⟩
  | halt x w' => cases x <;> exact h.elim

theorem sure_step {Q : Act → Prop} {a a' : Act} {o : Oper} {rest : List Oper} (hne : ∃ w, I w) (hw : Region.wanted o (yielded ops a.tmps) = true)
    (h1 : ∀ w, I w → ∀ K : Act → World → Prop, (∀ w', I w' → K a' w') → o.wp P a w K NoQ) (hd : a'.defers = a.defers) (h2 : wpSure P ops I Q rest a') : wpSure P ops I Q (o :: rest) a := by
  have h := fun w hI => goes_of_wp (I := I) hd (h1 w hI (fun x w' => x = a' ∧ I w') (fun _ hI' => ⟨rfl, hI'⟩))
  obtain ⟨w0, hI0⟩ := hne
  obtain ⟨u, hu⟩ := (h w0 hI0).2
  have hv : a' = a.put o.dst (slotOf o.dst a') := by
    rw [hu]
    exact put_congr rfl slotOf_put
  refine ⟨slotOf o.dst a', .inl ⟨hw, fun w hI => (h w hI).1⟩, ?_⟩
  rw [← hv]
  exact h2

theorem sure_apart {oi oj : Oper} {v u : Value} {a : Act} (hap : oi.apart ops oj = true) (hsi : ∀ cs b, oi.op ≠ .select cs b) (hsj : ∀ cs b, oj.op ≠ .select cs b)
    (hi : Sure P ops I oi v a) (hj : Sure P ops I oj u (a.put oi.dst v)) :
    Sure P ops I oj u a ∧ Sure P ops I oi v (a.put oj.dst u) ∧ (a.put oi.dst v).put oj.dst u = (a.put oj.dst u).put oi.dst v := by
  obtain ⟨h1, h2, h3⟩ := Oper.apart_spec hap
  refine ⟨hj.of_same (put_size _ _ _).symm (execOp_put oj hsj a oi.dst v h1).symm (wanted_put oj a oi.dst v h1).symm,
    hi.of_same (put_size _ _ _) (execOp_put oi hsi a oj.dst u h3) (wanted_put oi a oj.dst u h3), Act.put_comm a v u h2⟩

def anySure (P : Program) (md : Region.Mode) (ops : Array Oper) (I : World → Prop) (n : Nat) (L : Array Bool → Act → Prop) : Nat → Array Bool → Act → Prop
  | 0, listed, a => L listed a
  | f + 1, listed, a =>
    Region.ready md ops listed ≠ [] ∧ ∀ i ∈ Region.ready md ops listed, i < n ∧ ∃ o v, ops[i]? = some o ∧ Sure P ops I o v a ∧ anySure P md ops I n L f (listed.setIfInBounds i true) (a.put o.dst v)

theorem any_of_sure {n g : Nat} {L : Array Bool → Act → Prop} {Q' : Exit → Act → World → Prop} (hL : ∀ listed a, L listed a → ∀ w, I w → wpAny P md ops Q' g listed a w) :
    ∀ (f : Nat) (listed : Array Bool) (a : Act) (w : World), I w → anySure P md ops I n L f listed a → wpAny P md ops Q' (f + g) listed a w
  | 0, listed, a, w, hI, h => by rw [Nat.zero_add]; exact hL _ _ h w hI
  | f + 1, listed, a, w, hI, h => by
    rw [show f + 1 + g = (f + g) + 1 by omega]
    refine ⟨fun h0 => absurd h0 h.1, fun i hi => ?_⟩
    obtain ⟨_, o, v, ho, hs, hr⟩ := h.2 i hi
    exact hs.wpOp ho hI fun w' hI' => any_of_sure hL f _ _ w' hI' hr

def sinkBut (md : Region.Mode) (ops : Array Oper) (fl : List Nat) (n : Nat) : Bool :=
  (List.range n).all fun i => fl.contains i || (List.range (n + 1)).any fun j => decide (i < j) && Region.waitsFor md ops j i

theorem tail_waits_but {fl : List Nat} {n : Nat} {listed : Array Bool} (hfl : ∀ i ∈ fl, listed.getD i true = true) (hs : sinkBut md ops fl n = true) (hc : Region.chainB md ops n = true) (hn : n < ops.size)
    (inv : HeadInv md ops n listed) : ∀ (d i : Nat), n - i = d → i < n → listed.getD i true = false → ∀ t, n ≤ t → t ∉ Region.ready md ops listed := by
  intro d
  induction d using Nat.strongRecOn with
  | _ d ih =>
    intro i hd hi hun t ht hr
    obtain ⟨_, ot, hot, hall⟩ := mem_ready.1 hr
    have htlt : t < ops.size := (Array.getElem?_eq_some_iff.1 hot).1
    rcases Nat.lt_or_ge n t with hlt | hge
    · have h1 := List.all_eq_true.1 hc t (List.mem_range.2 htlt)
      simp only [Bool.or_eq_true, decide_eq_true_eq] at h1
      rcases h1 with h1 | h1
      · omega
      · obtain ⟨o', ho', e, he, hb, hon⟩ := Region.waitsFor_spec h1
        obtain rfl : o' = ot := Option.some.inj (ho'.symm.trans hot)
        have h2 := hall e he hb
        rw [hon, getD_both (inv.tail (t - 1) (by omega) (by omega))] at h2
        cases h2
    · obtain rfl : t = n := by omega
      have h1 := List.all_eq_true.1 hs i (List.mem_range.2 hi)
      rw [Bool.or_eq_true] at h1
      rcases h1 with h1 | h1
      · have := hfl i (by simpa using h1)
        rw [hun] at this; cases this
      · obtain ⟨j, hj, hj2⟩ := List.any_eq_true.1 h1
        simp only [Bool.and_eq_true, decide_eq_true_eq] at hj2
        obtain ⟨oj, hoj, e, he, hb, hon⟩ := Region.waitsFor_spec hj2.2
        have hjle : j ≤ t := by have := List.mem_range.1 hj; omega
        by_cases hjt : j = t
        · subst hjt
          obtain rfl : oj = ot := Option.some.inj (hoj.symm.trans hot)
          have h2 := hall e he hb
          rw [hon, getD_both hun] at h2
          cases h2
        · cases hl : listed.getD j false with
          | true =>
            have h2 := inv.closed j oj hoj hl e he hb
            rw [hon, getD_both hun] at h2
            cases h2
          | false =>
            have hjs : j < listed.size := by rw [inv.size]; omega
            exact ih (t - j) (by omega) j rfl (by omega) (getD_in hjs hl) t (Nat.le_refl _) hr

theorem anySure_first {fl : List Nat} {n i : Nat} {oi : Oper} {v : Value} {L : Array Bool → Act → Prop} (hi : ops[i]? = some oi) (hsel : ∀ (j : Nat) (o : Oper) cs b, ops[j]? = some o → o.op ≠ .select cs b)
    (hs : sinkBut md ops fl n = true) (hc : Region.chainB md ops n = true) (hn : n < ops.size) (hin : i < n)
    (hdone : ∀ listed a, L listed a → ∀ j ∈ Region.ready md ops listed, n ≤ j) :
    ∀ (f : Nat) (listed : Array Bool) (a : Act), HeadInv md ops n listed → (∀ i ∈ fl, listed.getD i true = true) →
      (∀ j oj, ops[j]? = some oj → j ≠ i → listed.getD j true = false → (∀ e ∈ oj.after, Region.binds md e = true → e.on ≠ i) → oi.apart ops oj = true) →
      i ∈ Region.ready md ops listed → Sure P ops I oi v a →
      anySure P md ops I n L f (listed.setIfInBounds i true) (a.put oi.dst v) → anySure P md ops I n L (f + 1) listed a := by
  intro f
  have inHead : ∀ (listed : Array Bool), HeadInv md ops n listed → (∀ i ∈ fl, listed.getD i true = true) → i ∈ Region.ready md ops listed → ∀ j ∈ Region.ready md ops listed, j < n := by
    intro listed inv hfl hr j hj
    rcases Nat.lt_or_ge j n with h | h
    · exact h
    · exact absurd hj (tail_waits_but hfl hs hc hn inv _ i rfl hin (mem_ready.1 hr).1 j h)
  induction f with
  | zero =>
    intro listed a inv hfl _ hr hy H
    refine ⟨fun h => (by rw [h] at hr; cases hr), fun j hj => ⟨inHead listed inv hfl hr j hj, ?_⟩⟩
    by_cases hji : j = i
    · subst hji; exact ⟨oi, v, hi, hy, H⟩
    · have := hdone _ _ H j (ready_mono hj hji)
      have := inHead listed inv hfl hr j hj
      omega
  | succ f ih =>
    intro listed a inv hfl hfree hr hy H
    have hun := (mem_ready.1 hr).1
    refine ⟨fun h => (by rw [h] at hr; cases hr), fun j hj => ⟨inHead listed inv hfl hr j hj, ?_⟩⟩
    by_cases hji : j = i
    · subst hji; exact ⟨oi, v, hi, hy, H⟩
    · obtain ⟨_, oj, u, hoj, hsj, hr2⟩ := H.2 j (ready_mono hj hji)
      obtain ⟨hjun, oj', hoj', hall⟩ := mem_ready.1 hj
      obtain rfl : oj' = oj := Option.some.inj (hoj'.symm.trans hoj)
      have hnot : ∀ e ∈ oj'.after, Region.binds md e = true → e.on ≠ i := fun e he hb heq => by
        have h1 := hall e he hb
        rw [heq, getD_both hun] at h1
        cases h1
      obtain ⟨s1, s2, s3⟩ := sure_apart (hfree j oj' hoj hji hjun hnot) (fun cs b => hsel i oi cs b hi) (fun cs b => hsel j oj' cs b hoj) hy hsj
      refine ⟨oj', u, hoj, s1, ih (listed.setIfInBounds j true) _ (inv.set hj (inHead listed inv hfl hr j hj)) ?_ ?_ (ready_mono hr (Ne.symm hji)) s2 ?_⟩
      · intro k hk
        by_cases hjk : j = k
        · subst hjk; rw [hfl j hk] at hjun; cases hjun
        · rw [getD_set_ne true hjk]; exact hfl k hk
      · intro k ok hk hki hun' hno
        refine hfree k ok hk hki ?_ hno
        by_cases hjk : j = k
        · subst hjk; exact hjun
        · rw [getD_set_ne true hjk] at hun'; exact hun'
      · rw [← s3, Array.setIfInBounds_comm _ _ hji]
        exact hr2

def orderL (md : Region.Mode) (ops : Array Oper) (n : Nat) (E : Array Bool → Bool) : List Nat → Array Bool → Bool
  | [], listed => E listed
  | k :: r, listed => decide (k < n) && (Region.ready md ops listed).contains k && Region.free md ops listed k && orderL md ops n E r (listed.setIfInBounds k true)

theorem anySure_of {fl : List Nat} {n g : Nat} {Lq : Act → Prop} (hsel : Region.noSelect ops = true) (hs : sinkBut md ops fl n = true) (hc : Region.chainB md ops n = true) (hn : n < ops.size) :
    ∀ (l : List Nat) (lo : List Oper) (listed : Array Bool) (a : Act), l.map (ops[·]?) = lo.map some → HeadInv md ops n listed → (∀ i ∈ fl, listed.getD i true = true) →
    orderL md ops n (fun listed => Region.seqB md ops g n listed) l listed = true → wpSure P ops I Lq lo a →
    anySure P md ops I n (fun listed' a' => Region.seqB md ops g n listed' = true ∧ Lq a') l.length listed a := by
  intro l
  induction l with
  | nil =>
    intro lo listed a hm _ _ hB h
    cases lo with
    | nil => exact ⟨hB, h⟩
    | cons o lo => simp at hm
  | cons k l ih =>
    intro lo listed a hm inv hfl hB h
    cases lo with
    | nil => simp at hm
    | cons o lo =>
      simp only [List.map_cons, List.cons.injEq] at hm
      obtain ⟨h0, hm⟩ := hm
      simp only [orderL, Bool.and_eq_true, decide_eq_true_eq] at hB
      obtain ⟨⟨⟨hkn, hr⟩, hf⟩, hB'⟩ := hB
      have hr' : k ∈ Region.ready md ops listed := by simpa using hr
      obtain ⟨v, hy, hK⟩ := h
      refine anySure_first h0 (Region.noSelect_spec hsel) hs hc hn hkn (fun listed' a' hL => seqB_ready hL.1) l.length listed a inv hfl (Region.free_spec h0 hf) hr' hy
        (ih lo _ _ hm (inv.set hr' hkn) ?_ hB' hK)
      intro i hi
      by_cases hki : k = i
      · subst hki
        have h1 := hfl k hi
        rw [(mem_ready.1 hr').1] at h1
        cases h1
      · rw [getD_set_ne true hki]; exact hfl i hi

def isMove (o : Oper) : Bool := o.guard.isNone && match o.op with | .move _ => true | .assign _ => true | _ => false

def moved (a : Act) (o : Oper) : Act := match o.op with | .move x => a.put o.dst (a.eval x) | .assign x => a.put o.dst (a.eval x) | _ => a

theorem isMove_yields {o : Oper} {a : Act} (h : isMove o = true) : ∃ v, Yields P ops o v a ∧ moved a o = a.put o.dst v := by
  simp only [isMove, Bool.and_eq_true] at h
  obtain ⟨hg, h⟩ := h
  have hg : o.guard = none := by simpa using hg
  have hw : Region.wanted o (yielded ops a.tmps) = true := by simp [Region.wanted, hg]
  cases ho : o.op <;> rw [ho] at h <;> first | cases h | skip
  case move x => exact ⟨a.eval x, Or.inl ⟨hw, fun w => by simp [execOp, ho, pure]⟩, by simp [moved, ho]⟩
  case assign x => exact ⟨a.eval x, Or.inl ⟨hw, fun w => by simp [execOp, ho, pure]⟩, by simp [moved, ho]⟩

def floatL (md : Region.Mode) (ops : Array Oper) (n : Nat) (E : Array Bool → Bool) : List Nat → Array Bool → Bool
  | [], listed => E listed
  | k :: r, listed => decide (k < n) && ((ops[k]?).map isMove).getD false && (Region.ready md ops listed).contains k && Region.free md ops listed k && floatL md ops n E r (listed.setIfInBounds k true)

def Puts (Q : Exit → Act → World → Prop) : Prop := ∀ c x v a w, Q (.panic c) (a.put x v) w → Q (.panic c) a w

theorem panic_put {a : Act} {x : Option Tmp} {v : Value} {R : Prop} (h : (a.put x v).defers = [] ∧ R) : a.defers = [] ∧ R := by
  cases x <;> exact h

theorem floats_first {fl : List Nat} {n : Nat} {Q : Exit → Act → World → Prop} {E : Array Bool → Bool} (hsel : Region.noSelect ops = true) (hQ : Puts Q) (w : World) : ∀ (l : List Nat) (lo : List Oper) (f : Nat) (listed : Array Bool) (a : Act), l.map (ops[·]?) = lo.map some → HeadInv md ops n listed →
    (∀ i ∈ fl, i ∈ l ∨ listed.getD i true = true) → floatL md ops n E l listed = true →
    (∀ listed', HeadInv md ops n listed' → (∀ i ∈ fl, listed'.getD i true = true) → E listed' = true → wpAny P md ops Q f listed' (lo.foldl moved a) w) → wpAny P md ops Q (l.length + f) listed a w := by
  intro l
  induction l with
  | nil =>
    intro lo f listed a hm inv hfl hB h
    cases lo with
    | cons o lo => simp at hm
    | nil =>
      simp only [List.length_nil, Nat.zero_add]
      exact h listed inv (fun i hi => (hfl i hi).resolve_left (by simp)) hB
  | cons k l ih =>
    intro lo f listed a hm inv hfl hB h
    cases lo with
    | nil => simp at hm
    | cons o lo =>
      simp only [List.map_cons, List.cons.injEq] at hm
      obtain ⟨h0, hm⟩ := hm
      simp only [floatL, Bool.and_eq_true, decide_eq_true_eq] at hB
      obtain ⟨⟨⟨⟨hkn, hmv⟩, hr⟩, hf⟩, hB'⟩ := hB
      rw [h0] at hmv
      obtain ⟨v, hy, hv⟩ := isMove_yields (P := P) (ops := ops) (a := a) (by simpa using hmv)
      have hr' : k ∈ Region.ready md ops listed := by simpa using hr
      have hk : k < listed.size := by
        rw [inv.size]
        exact (Array.getElem?_eq_some_iff.1 h0).1
      rw [show (k :: l).length + f = (l.length + f) + 1 by simp only [List.length_cons]; omega]
      refine wpAny_first h0 (Region.noSelect_spec hsel) (fun c a w h => hQ c _ _ a w h) (l.length + f) listed a w (Region.free_spec h0 hf) hr' hy ?_
      refine ih lo f _ _ hm (inv.set hr' hkn) ?_ hB' ?_
      · intro i hi
        rcases hfl i hi with h1 | h1
        · rcases List.mem_cons.1 h1 with rfl | h1
          · right
            simp [hk]
          · exact .inl h1
        · right
          by_cases hki : k = i
          · subst hki
            simp [hk]
          · rw [getD_set_ne true hki]; exact h1
      · intro listed' inv' hfl' hE
        rw [← hv]
        exact h listed' inv' hfl' hE

def regionB (ops : Array Oper) (fl hd : List Nat) (n : Nat) : Bool :=
  Region.noSelect ops && decide (n < ops.size) && decide (fl.length + hd.length = n) && sinkBut .any ops fl n && Region.chainB .any ops n &&
  floatL .any ops n (fun listed => orderL .any ops n (fun listed => Region.seqB .any ops (ops.size - n) n listed) hd listed) fl (Array.replicate ops.size false)

theorem wp_region_sure {id : Nat} {Q : Exit → Act → World → Prop} {a : Act} {w : World} {l : List Oper} (fl hd : List Nat) (lf lh lt : List Oper) (n : Nat) (I : World → Prop) (hm : P.follows .mixedOrders = true) (hQ : Puts Q)
    (hB : regionB l.toArray fl hd n = true) (h1 : fl.map (l.toArray[·]?) = lf.map some) (h2 : hd.map (l.toArray[·]?) = lh.map some) (h3 : l.drop n = lt) (hI : I { w with drawn := w.drawn + 1 })
    (h : wpSure P l.toArray I (fun a' => ∀ w', I w' → wpList P l.toArray Q lt a' w') lh (lf.foldl moved a)) : (Code.region id l.toArray true).wp P Q a w := by
  simp only [regionB, Bool.and_eq_true, decide_eq_true_eq] at hB
  obtain ⟨⟨⟨⟨⟨hsel, hn⟩, hlen⟩, hs⟩, hc⟩, hfl⟩ := hB
  subst h3
  have hdl : (l.drop n).length = l.toArray.size - n := by simp
  have inv0 : HeadInv .any l.toArray n (Array.replicate l.toArray.size false) :=
    ⟨by simp, fun j oj _ hl => (by rw [getD_replicate_false] at hl; cases hl), fun t _ ht => getD_in (by simpa using ht) (getD_replicate_false _ _)⟩
  refine wp_region_any hm ?_
  have hsz : l.toArray.size = fl.length + (hd.length + (l.toArray.size - n)) := by omega
  rw [hsz]
  have H := floats_first (P := P) (Q := Q) (fl := fl) hsel hQ { w with drawn := w.drawn + 1 } fl lf (hd.length + (l.toArray.size - n)) (Array.replicate l.toArray.size false) a h1 inv0 (fun i hi => .inl hi) hfl ?_
  · rw [← hsz] at *
    exact H
  · intro listed' inv' hfl' hE
    refine any_of_sure (I := I) (n := n) (L := fun listed' a' => Region.seqB .any l.toArray (l.toArray.size - n) n listed' = true ∧ ∀ w', I w' → wpList P l.toArray Q (l.drop n) a' w') ?_ hd.length listed' _ _ hI
      (anySure_of hsel hs hc hn hd lh listed' _ h2 inv' hfl' hE h)
    rintro listed a' ⟨hq, hl⟩ w' hI'
    have := wpAny_of_seq (md := .any) (Q' := Q) (l.drop n) n listed a' w' (fun j => by simp [List.getElem?_drop]) (by rw [hdl]; exact hq) (hl w' hI')
    rwa [hdl] at this
def headFrom (fl : List Nat) : Nat → Nat → List Oper → List Oper
  | _, 0, _ => []
  | _, _ + 1, [] => []
  | k, m + 1, o :: l => if fl.elem k then headFrom fl (k + 1) m l else o :: headFrom fl (k + 1) m l

theorem headFrom_map (fl : List Nat) (L : List Oper) : ∀ (m k : Nat) (l : List Oper), (∀ j, l[j]? = L[k + j]?) → m ≤ l.length →
    ((List.range' k m).filter fun i => !fl.elem i).map (L.toArray[·]?) = (headFrom fl k m l).map some := by
  intro m
  induction m with
  | zero => intro k l _ _; simp [headFrom]
  | succ m ih =>
    intro k l hl hm
    cases l with
    | nil => simp at hm
    | cons o l =>
      have h0 : L[k]? = some o := by simpa using (hl 0).symm
      have ih' := ih (k + 1) l (fun j => by have := hl (j + 1); simpa [Nat.add_assoc, Nat.add_comm 1 j] using this) (by simpa using hm)
      simp only [List.range'_succ, List.filter_cons, headFrom]
      by_cases hf : fl.elem k
      · simp only [hf, Bool.not_true, Bool.false_eq_true, if_false, if_true]
        exact ih'
      · simp only [hf, Bool.not_false, Bool.false_eq_true, if_false, if_true, List.map_cons, ih']
        simp [h0]

theorem floats_map (L : List Oper) : ∀ (fl : List Nat), (∀ k ∈ fl, k < L.length) → fl.map (L.toArray[·]?) = (fl.filterMap (L[·]?)).map some
  | [], _ => rfl
  | k :: fl, h => by
    have hk := h k (by simp)
    have h0 : L[k]? = some L[k] := by simp [hk]
    simp only [List.map_cons, List.filterMap_cons, h0]
    rw [floats_map L fl (fun j hj => h j (by simp [hj]))]
    simp [hk]

theorem wp_region_same {id : Nat} {Q : Exit → Act → World → Prop} {a : Act} {w : World} {l : List Oper} (fl : List Nat) (n : Nat) (hm : P.follows .mixedOrders = true) (hQ : Puts Q)
    (hB : regionB l.toArray fl ((List.range' 0 n).filter fun i => !fl.elem i) n = true) (hf : fl.all (· < n) = true)
    (h : (∃ w', w' = w.drew) → wpSure P l.toArray (fun w' => w' = w.drew) (fun a' => wpList P l.toArray Q (l.drop n) a' w.drew) (headFrom fl 0 n l) ((fl.filterMap (l[·]?)).foldl moved a)) :
    (Code.region id l.toArray true).wp P Q a w := by
  have hn : n < l.length := by
    simp only [regionB, Bool.and_eq_true, decide_eq_true_eq] at hB
    simpa using hB.1.1.1.1.2
  have hf' : ∀ k ∈ fl, k < n := by simpa using hf
  have h' : ∀ (lo : List Oper) (a : Act), wpSure P l.toArray (fun w' => w' = w.drew) (fun a' => wpList P l.toArray Q (l.drop n) a' w.drew) lo a →
      wpSure P l.toArray (fun w' => w' = w.drew) (fun a' => ∀ w', w' = w.drew → wpList P l.toArray Q (l.drop n) a' w') lo a := by
    intro lo
    induction lo with
    | nil => intro a h w' hw; subst hw; exact h
    | cons o lo ih => rintro a ⟨v, hs, h⟩; exact ⟨v, hs, ih _ h⟩
  exact wp_region_sure fl _ _ _ _ n (fun w' => w' = w.drew) hm hQ hB (floats_map l fl fun k hk => Nat.lt_trans (hf' k hk) hn) (headFrom_map fl l n 0 l (fun j => by simp) (Nat.le_of_lt hn)) rfl
    rfl (h' _ _ (h ⟨_, rfl⟩))
end
end Go.Proofs.YtcadinbahmliiaaGreatDoor

/- A map whose keys are entries: what a key reads as; what a walk over the map has met. No conditions. -/
namespace Go.Proofs.YtcadinbahmliiaaGreatDoor
open Go.RowKit
open Go.Maps (Keyed KeysOf)
set_option maxRecDepth 100000

def encE (x : ByteArray × Int) : Value := .agg #[.string x.1, .int .u32 x.2]
theorem encE_inj {x y : ByteArray × Int} (h : encE x = encE y) : x = y := by
  simp only [encE, Value.agg.injEq, Array.mk.injEq, List.cons.injEq, Value.string.injEq, Value.int.injEq, and_true, true_and] at h
  exact Prod.ext h.1 h.2

noncomputable def fsE : Array Field := match Tryz.prog.underlying 27 with
  | some (.struct fs) => fs
  | _ => #[]
theorem und_E : Tryz.prog.underlying 27 = some (.struct fsE) := by kernel_rfl
noncomputable def fE0 : Field := fsE.toList.getD 0 default
noncomputable def fE1 : Field := fsE.toList.getD 1 default
theorem fsE_l : fsE.toList = [fE0, fE1] := by kernel_rfl
theorem fsE_ok : fsE.all (·.name != "_") = true := by kernel_rfl
theorem fE0_o : fE0.offset = 0 := by kernel_rfl
theorem fE1_o : fE1.offset = 1 := by kernel_rfl
theorem fE0_u : Tryz.prog.underlying fE0.type = some .string := by kernel_rfl
theorem fE1_u : Tryz.prog.underlying fE1.type = some (.int .u32) := by kernel_rfl
theorem fE0_c : Tryz.prog.cellsOf fE0.type = 1 := by kernel_rfl
theorem fE1_c : Tryz.prog.cellsOf fE1.type = 1 := by kernel_rfl
theorem cells_E : Tryz.prog.cellsOf 27 = 2 := by kernel_rfl
theorem wide_E : (match Tryz.prog.underlying 27 with | some (.array _ _) | some (.struct _) => true | _ => false) = true := by kernel_rfl
theorem laidOut_P : laidOutB Tryz.prog = true := by kernel_rfl
theorem keyed_E : Keyed Tryz.prog 27 := Keyed.of_law (deep_law_laid laidOut_P (m := 2) (by omega) (of_decide_eq_true (by kernel_rfl)) (by kernel_rfl) wide_E)
theorem types_succ : ∃ m, Tryz.prog.types.size = m + 1 := ⟨Tryz.prog.types.size - 1, by
  have : Nat.ble 1 Tryz.prog.types.size = true := by kernel_rfl
  have := Nat.le_of_ble_eq_true this
  omega⟩
theorem keyType_E : Tryz.prog.keyType 27 = true := by kernel_rfl

def litE (x : ByteArray × Int) : Lit := .string (keyBytes [.string x.1.data.toList, .int .u32 x.2])
theorem keyOf_E {x : ByteArray × Int} (hs : x.1.size ≤ maxLen) (hc : (Lit.int .u32 x.2).wf = true) : keyOf Tryz.prog 27 (encE x) = some (litE x) := by
  obtain ⟨m, hm⟩ := types_succ
  unfold keyOf
  simp only [und_E]
  rw [if_pos (by simp [keyType_E, Value.formed, encE, und_E, cells_E]), hm]
  unfold Program.keyLits
  simp only [und_E, Value.cells, encE]
  rw [if_pos ⟨by rw [cells_E]; rfl, fsE_ok⟩, fsE_l, List.mapM_cons, List.mapM_cons, List.mapM_nil]
  simp [fE0_o, fE1_o, fE0_c, fE1_c, Program.keyLits, fE0_u, fE1_u, hs, hc, litE]
theorem keyOf_E_inv {key : Value} {kl : Lit} (h : keyOf Tryz.prog 27 key = some kl) : ∃ x, key = encE x := by
  obtain ⟨⟨xs⟩, L, rfl, hl, _⟩ := keyOf_top wide_E h
  unfold Program.keyLits at hl
  simp only [und_E] at hl
  split at hl
  · rename_i hc
    have h2 : xs.length = 2 := by
      have := hc.1
      rwa [cells_E] at this
    match xs, h2 with
    | [a, b], _ =>
      rw [fsE_l, List.mapM_cons, List.mapM_cons, List.mapM_nil] at hl
      simp only [fE0_o, fE1_o, fE0_c, fE1_c, List.drop_zero, List.drop_succ_cons, List.take_succ_cons, List.take_zero, Option.map_eq_some_iff, Option.bind_eq_bind, Option.bind_eq_some_iff] at hl
      obtain ⟨_, ⟨la, ha, _, ⟨lb, hb, _⟩, _⟩, _⟩ := hl
      obtain ⟨s, h1, _⟩ := keyLits_string' fE0_u ha
      obtain ⟨c, h3, _⟩ := keyLits_int' fE1_u hb
      cases h1
      cases h3
      exact ⟨(s, c), rfl⟩
  · cases hl

def hasE (D : DataW Unit) (x : ByteArray × Int) : Prop := ∃ l, keyOf Tryz.prog 27 (encE x) = some l ∧ Maps.has D l = true
def CollE (D0 : DataW Unit) (left : Lit → Bool) (ss : List (ByteArray × Int)) : Prop := ss.Nodup ∧ ∀ x, x ∈ ss ↔ ∃ l, keyOf Tryz.prog 27 (encE x) = some l ∧ Maps.has D0 l = true ∧ left l = false
theorem CollE.start (D0 : DataW Unit) : CollE D0 (Maps.has D0) [] := ⟨List.nodup_nil, fun x => ⟨fun h => (List.not_mem_nil h).elim, fun ⟨l, _, h1, h2⟩ => by rw [h1] at h2; cases h2⟩⟩
theorem CollE.step {D0 : DataW Unit} {left : Lit → Bool} {ss : List (ByteArray × Int)} (h : CollE D0 left ss) {x : ByteArray × Int} {kl : Lit} {y : DataW Unit} (hk : keyOf Tryz.prog 27 (encE x) = some kl) (hlk : left kl = true) (hat : ∀ zd, D0.atKey kl zd = y) : CollE D0 (fun z => left z && !z.sameKey kl) (ss ++ [x]) := by
  have hhas : Maps.has D0 kl = true := Maps.has_true_of_atKey hat
  have hnew : x ∉ ss := fun hx => by
    obtain ⟨l, h1, _, h3⟩ := (h.2 x).1 hx
    rw [hk] at h1
    cases h1
    rw [hlk] at h3
    cases h3
  refine ⟨List.nodup_append.2 ⟨h.1, by simp, fun a ha b hb => by simp at hb; subst hb; exact fun e => hnew (e ▸ ha)⟩, fun z => ?_⟩
  by_cases hz : z = x
  · subst hz
    refine ⟨fun _ => ⟨kl, hk, hhas, ?_⟩, fun _ => by simp⟩
    show (left kl && !kl.sameKey kl) = false
    rw [WideAt.sameKey_self (keyed_E.key hk), Bool.not_true, Bool.and_false]
  · rw [List.mem_append, List.mem_singleton]
    constructor
    · rintro (hz' | hz')
      · obtain ⟨l, h1, h2, h3⟩ := (h.2 z).1 hz'
        exact ⟨l, h1, h2, by
          show (left l && !l.sameKey kl) = false
          rw [h3, Bool.false_and]⟩
      · exact (hz hz').elim
    · rintro ⟨l, h1, h2, h3⟩
      refine .inl ((h.2 z).2 ⟨l, h1, h2, ?_⟩)
      have hne : l.sameKey kl = false := by
        cases hs : l.sameKey kl with
        | false => rfl
        | true =>
          have e := WideAt.sameKey_eq hs
          subst e
          exact (hz (encE_inj (keyed_E.inj h1 hk))).elim
      replace h3 : (left l && !l.sameKey kl) = false := h3
      rw [hne, Bool.not_false, Bool.and_true] at h3
      exact h3
theorem CollE.done {D0 : DataW Unit} {left : Lit → Bool} {ss : List (ByteArray × Int)} (h : CollE D0 left ss) (hl : ∀ kl, left kl = false) : ss.Nodup ∧ ∀ x, x ∈ ss ↔ hasE D0 x :=
  ⟨h.1, fun x => by
    rw [h.2 x]
    exact ⟨fun ⟨l, h1, h2, _⟩ => ⟨l, h1, h2⟩, fun ⟨l, h1, h2⟩ => ⟨l, h1, h2, hl l⟩⟩⟩

theorem hasE_put {D : DataW Unit} {es : List (Lit × DataW Unit)} (hD : D = .map es) {x : ByteArray × Int} {kl : Lit} {d : DataW Unit} (hk : keyOf Tryz.prog 27 (encE x) = some kl) (z : ByteArray × Int) : hasE (D.put kl d) z ↔ z = x ∨ hasE D z := by
  subst hD
  have key : ∀ l, Maps.has ((DataW.map es).put kl d) l = true → (∃ v, keyOf Tryz.prog 27 v = some l) → (l = kl ∨ Maps.has (.map es) l = true) := fun l h _ => by
    rw [DataW.put_eq, Maps.has_eq, List.any_eq_true] at h
    obtain ⟨p, hp, hs⟩ := h
    unfold ChangeMaps.putKey at hp
    rcases ChangeMaps.mem_insert_iff.1 hp with rfl | hp
    · exact .inl (WideAt.sameKey_eq hs).symm
    · rw [Maps.has_eq, List.any_eq_true]
      exact .inr ⟨p, (List.mem_filter.1 hp).1, hs⟩
  constructor
  · rintro ⟨l, h1, h2⟩
    rcases key l h2 ⟨_, h1⟩ with rfl | h3
    · exact .inl (encE_inj (keyed_E.inj h1 hk))
    · exact .inr ⟨l, h1, h3⟩
  · have self : Maps.has ((DataW.map es).put kl d) kl = true := by
      rw [DataW.put_eq, Maps.has_eq, List.any_eq_true]
      exact ⟨(kl, d), ChangeMaps.mem_insert_iff.2 (.inl rfl), WideAt.sameKey_self (keyed_E.key hk)⟩
    rintro (rfl | ⟨l, h1, h2⟩)
    · exact ⟨kl, hk, self⟩
    · by_cases e : l = kl
      · subst e
        exact ⟨l, h1, self⟩
      · refine ⟨l, h1, ?_⟩
        rw [Maps.has_eq, List.any_eq_true] at h2
        obtain ⟨p, hp, hs⟩ := h2
        rw [DataW.put_eq, Maps.has_eq, List.any_eq_true]
        refine ⟨p, ChangeMaps.mem_insert_iff.2 (.inr (List.mem_filter.2 ⟨hp, ?_⟩)), hs⟩
        have ep := WideAt.sameKey_eq hs
        exact (Maps.notKey_iff (keyed_E.key hk)).2 (by rw [ep]; exact e)
theorem hasE_nil (z : ByteArray × Int) : ¬ hasE (.map []) z := fun ⟨l, _, h⟩ => by
  rw [Maps.has_eq] at h
  cases h

end Go.Proofs.YtcadinbahmliiaaGreatDoor

/- The function that yields the pairs of turns: its word. Conditions: none. -/
namespace Go.Proofs.YtcadinbahmliiaaGreatDoor
open Go.RowKit
set_option maxRecDepth 100000

theorem TabOk.keep {w X : World} {M : Nat → Prop} (h : TabOk M w) (hk : keepR w M w X) : TabOk (fun k => X.heap.size ≤ k) X := fun x hx => by
  obtain ⟨h1, l, t, fz, h2, h3⟩ := h x hx
  have hlt := (Array.getElem?_eq_some_iff.1 h2).1
  exact ⟨fun hq => by have := hk.1; omega, l, t, fz, hk.2 x.1 _ hlt h1 h2, h3⟩
theorem keepR.refl (w : World) (M : Nat → Prop) : keepR w M w w := ⟨Nat.le_refl _, fun _ _ _ _ h => h⟩
end Go.Proofs.YtcadinbahmliiaaGreatDoor

/- The function that yields the pairs of turns: its word. Conditions: none. -/
namespace Go.Proofs.YtcadinbahmliiaaGreatDoor
open Go.RowKit
set_option maxRecDepth 100000

end Go.Proofs.YtcadinbahmliiaaGreatDoor

/- Products of designs: CycTimes of both, DesignTimes of both: trees. Conditions: two lists of wheels. -/
namespace Go.Proofs.YtcadinbahmliiaaGreatDoor
open Go.RowKit
set_option maxRecDepth 100000

end Go.Proofs.YtcadinbahmliiaaGreatDoor

/- Products of designs: CycTimes of both, DesignTimes of both. Conditions: two lists of wheels. -/
namespace Go.Proofs.YtcadinbahmliiaaGreatDoor
open Go.RowKit
set_option maxRecDepth 100000

end Go.Proofs.YtcadinbahmliiaaGreatDoor

/- DesignTimes of both. Conditions: two lists of wheels. -/
namespace Go.Proofs.YtcadinbahmliiaaGreatDoor
open Go.RowKit
set_option maxRecDepth 100000

end Go.Proofs.YtcadinbahmliiaaGreatDoor

/- impl.at, and the program's DesignAt: the reference's word. Conditions: a list of wheels. -/
namespace Go.Proofs.YtcadinbahmliiaaGreatDoor
open Go.RowKit
set_option maxRecDepth 100000

end Go.Proofs.YtcadinbahmliiaaGreatDoor

/- DesignAt of the program; DesignClosed of both: the whole. Conditions: a list of wheels. -/
namespace Go.Proofs.YtcadinbahmliiaaGreatDoor
open Go.RowKit
set_option maxRecDepth 100000

end Go.Proofs.YtcadinbahmliiaaGreatDoor

/- Lists of wheels compared: slices.Equal, l5Equal. Conditions: two lists of wheels. -/
namespace Go.Proofs.YtcadinbahmliiaaGreatDoor
open Go.RowKit
set_option maxRecDepth 100000

end Go.Proofs.YtcadinbahmliiaaGreatDoor

/- DesignStill of both: trees. Conditions: a list of wheels. -/
namespace Go.Proofs.YtcadinbahmliiaaGreatDoor
open Go.RowKit
set_option maxRecDepth 100000

end Go.Proofs.YtcadinbahmliiaaGreatDoor

/- Lists compared; the program's turned designs read as the reference's. Conditions: lists of wheels. -/
namespace Go.Proofs.YtcadinbahmliiaaGreatDoor
open Go.RowKit
set_option maxRecDepth 100000

end Go.Proofs.YtcadinbahmliiaaGreatDoor

/- The program's DesignAkin: its trees. Conditions: two lists of wheels. -/
namespace Go.Proofs.YtcadinbahmliiaaGreatDoor
open Go.RowKit
set_option maxRecDepth 100000

end Go.Proofs.YtcadinbahmliiaaGreatDoor

/- DesignAkin of the reference: trees. Conditions: two lists of wheels. -/
namespace Go.Proofs.YtcadinbahmliiaaGreatDoor
open Go.RowKit
set_option maxRecDepth 100000

end Go.Proofs.YtcadinbahmliiaaGreatDoor

/- The program's CycMirror. Conditions: a point. -/
namespace Go.Proofs.YtcadinbahmliiaaGreatDoor
open Go.RowKit
set_option maxRecDepth 100000

end Go.Proofs.YtcadinbahmliiaaGreatDoor

/- 'changed', for DesignFaster: trees. Conditions: a list of wheels. -/
namespace Go.Proofs.YtcadinbahmliiaaGreatDoor
open Go.RowKit
set_option maxRecDepth 100000

end Go.Proofs.YtcadinbahmliiaaGreatDoor

/- 'changed', for DesignFaster: its words. Conditions: a list of wheels. -/
namespace Go.Proofs.YtcadinbahmliiaaGreatDoor
open Go.RowKit
set_option maxRecDepth 100000

end Go.Proofs.YtcadinbahmliiaaGreatDoor

/- The program's DesignFaster. Conditions: a list of wheels. -/
namespace Go.Proofs.YtcadinbahmliiaaGreatDoor
open Go.RowKit
set_option maxRecDepth 100000

end Go.Proofs.YtcadinbahmliiaaGreatDoor

/- The program's DesignFaster, as a list or none, read as one. Conditions: a list of wheels. -/
namespace Go.Proofs.YtcadinbahmliiaaGreatDoor
open Go.RowKit
set_option maxRecDepth 100000

end Go.Proofs.YtcadinbahmliiaaGreatDoor

/- Plain laws of designs: turned, later, back, mirrored, faster. No program, no conditions. -/
namespace Go.Proofs.YtcadinbahmliiaaGreatDoor
open Go.RowKit

end Go.Proofs.YtcadinbahmliiaaGreatDoor

/- Plain laws of designs: periods and folds. No program, no conditions. -/
namespace Go.Proofs.YtcadinbahmliiaaGreatDoor
open Go.RowKit

end Go.Proofs.YtcadinbahmliiaaGreatDoor

/- Plain laws of designs: a tidy list turned is turned wheel by wheel; akin designs. No program, no conditions. -/
namespace Go.Proofs.YtcadinbahmliiaaGreatDoor
open Go.RowKit

end Go.Proofs.YtcadinbahmliiaaGreatDoor

/- Two cases of a word, read as one; the program's DesignClosed. Conditions: a list of wheels. -/
namespace Go.Proofs.YtcadinbahmliiaaGreatDoor
open Go.RowKit
set_option maxRecDepth 100000

end Go.Proofs.YtcadinbahmliiaaGreatDoor

/- DesignAkin of both: their words. Conditions: two lists of wheels. -/
namespace Go.Proofs.YtcadinbahmliiaaGreatDoor
open Go.RowKit
set_option maxRecDepth 100000

end Go.Proofs.YtcadinbahmliiaaGreatDoor

/- The program's DesignAkin: its word. Conditions: two lists of wheels. -/
namespace Go.Proofs.YtcadinbahmliiaaGreatDoor
open Go.RowKit
set_option maxRecDepth 100000

end Go.Proofs.YtcadinbahmliiaaGreatDoor

/- DesignMirrored of both: their words. Conditions: a list of wheels. -/
namespace Go.Proofs.YtcadinbahmliiaaGreatDoor
open Go.RowKit
set_option maxRecDepth 100000

end Go.Proofs.YtcadinbahmliiaaGreatDoor

/- A callee that leaves what it reads as it was: its word, by its view, without a way back for its memory. No conditions. -/
namespace Go.Proofs.YtcadinbahmliiaaGreatDoor
open Go.RowKit

mutual
def posA : AV → Bool
  | .sl _ _ _ _ len _ => Nat.blt 0 len
  | .agg cs => posAs cs
  | .tup cs => posAs cs
  | .fn _ cs => posAs cs
  | _ => true
def posAs : List AV → Bool
  | [] => true
  | a :: al => posA a && posAs al
end
def posB : AB → Bool
  | .cells cs _ => posAs cs
  | _ => true
mutual
theorem VR.unren {keep : List Nat} {ν ν' : Nu} (h : ∀ j b, keepNu keep ν j = some b → ν' j = some b) : ∀ {a a' : AV} {x y : Value}, renA keep a = some a' → posA a = true → VR ν a x → VR ν' a' y → VR ν a y
  | .v _, a', _, _, hs, _, _, hv => by
    simp only [renA, Option.some.injEq] at hs
    subst hs
    simpa only [VR] using hv
  | .ptr .., a', _, _, hs, _, hx, hv => by
    simp only [renA, Option.map_eq_some_iff] at hs
    obtain ⟨q, hq, rfl⟩ := hs
    simp only [VR] at hx hv ⊢
    obtain ⟨b, h1, h2⟩ := hv
    obtain ⟨c, h3, _⟩ := hx
    have := h q c (by simp [keepNu, idxOf_get hq, h3])
    rw [h1, Option.some.injEq] at this
    subst this
    exact ⟨b, h3, h2⟩
  | .sl .., a', _, _, hs, hp, hx, hv => by
    simp only [renA, Option.map_eq_some_iff] at hs
    obtain ⟨q, hq, rfl⟩ := hs
    simp only [posA, Nat.blt_eq] at hp
    simp only [VR] at hx hv ⊢
    obtain ⟨p, c, h1, h2, h3, h4⟩ := hv
    obtain ⟨_, c0, _, _, g3, g4⟩ := hx
    refine ⟨p, c, h1, h2, h3, fun hc => ?_⟩
    obtain ⟨b, h5, h6⟩ := h4 hc
    obtain ⟨b0, g5, _⟩ := g4 (by omega)
    have := h q b0 (by simp [keepNu, idxOf_get hq, g5])
    rw [h5, Option.some.injEq] at this
    subst this
    exact ⟨b, g5, h6⟩
  | .own .., a', _, _, hs, _, hx, hv => by
    simp only [renA, Option.map_eq_some_iff] at hs
    obtain ⟨q, hq, rfl⟩ := hs
    simp only [VR] at hx hv ⊢
    obtain ⟨b, h1, h2⟩ := hv
    obtain ⟨c, h3, _⟩ := hx
    have := h q c (by simp [keepNu, idxOf_get hq, h3])
    rw [h1, Option.some.injEq] at this
    subst this
    exact ⟨b, h3, h2⟩
  | .agg _, a', _, _, hs, hp, hx, hv => by
    simp only [renA, Option.map_eq_some_iff] at hs
    obtain ⟨q, hq, rfl⟩ := hs
    simp only [posA] at hp
    simp only [VR] at hx hv ⊢
    obtain ⟨l, h1, h2⟩ := hv
    obtain ⟨l0, _, h3⟩ := hx
    exact ⟨l, h1, VRs.unren h hq hp h3 h2⟩
  | .tup _, a', _, _, hs, hp, hx, hv => by
    simp only [renA, Option.map_eq_some_iff] at hs
    obtain ⟨q, hq, rfl⟩ := hs
    simp only [posA] at hp
    simp only [VR] at hx hv ⊢
    obtain ⟨l, h1, h2⟩ := hv
    obtain ⟨l0, _, h3⟩ := hx
    exact ⟨l, h1, VRs.unren h hq hp h3 h2⟩
  | .fn _ _, a', _, _, hs, hp, hx, hv => by
    simp only [renA, Option.map_eq_some_iff] at hs
    obtain ⟨q, hq, rfl⟩ := hs
    simp only [posA] at hp
    simp only [VR] at hx hv ⊢
    obtain ⟨l, h1, h2⟩ := hv
    obtain ⟨l0, _, h3⟩ := hx
    exact ⟨l, h1, VRs.unren h hq hp h3 h2⟩
  | .err _, _, _, _, hs, _, _, hv => by
    simp only [renA, Option.some.injEq] at hs
    subst hs
    simpa only [VR] using hv
  | .dead, _, _, _, _, _, _, _ => by simp only [VR]
theorem VRs.unren {keep : List Nat} {ν ν' : Nu} (h : ∀ j b, keepNu keep ν j = some b → ν' j = some b) : ∀ {al al' : List AV} {xs ys : List Value}, renAs keep al = some al' → posAs al = true → VRs ν al xs → VRs ν' al' ys → VRs ν al ys
  | [], al', _, ys, hs, _, _, hv => by
    simp only [renAs, Option.some.injEq] at hs
    subst hs
    cases ys with
    | nil => simp only [VRs]
    | cons => simp only [VRs] at hv
  | a :: al, al', xs, ys, hs, hp, hx, hv => by
    simp only [renAs] at hs
    split at hs
    case h_2 => cases hs
    rename_i x xs' h1 h2
    cases hs
    cases ys with
    | nil => simp only [VRs] at hv
    | cons y ys =>
      cases xs with
      | nil => simp only [VRs] at hx
      | cons x0 xs =>
        simp only [VRs] at hx hv ⊢
        simp only [posAs, Bool.and_eq_true] at hp
        exact ⟨VR.unren h h1 hp.1 hx.1 hv.1, VRs.unren h h2 hp.2 hx.2 hv.2⟩
end

structure QRd where
  val : AV
  obl : List Bool := []
def specQ (ros : List Bool) (F : List AV → List AB → Option QRd) : Spec := fun avs H _ =>
  match viewH ros avs H with
  | some q => match F q.2.1 q.2.2 with
    | some kr => match mapA (fun _ => none) kr.val with
      | some v => some { val := v, rd := q.1, put := putH q.1 q.2.2 (q.1.map fun i => H.getD i .gone), new := [], obl := kr.obl ++ q.1.map fun i => posB (H.getD i .gone) }
      | none => none
    | none => none
  | none => none
def GivQ (kr : QRd) (H : List AB) : Ex → List AV → List AB → Prop := fun _ l He => l = [kr.val] ∧ Hsim He H
theorem specQ_calls {f : FuncId} {fn : Func} {ros : List Bool} {F : List AV → List AB → Option QRd} (hf : Tryz.prog.funcs[f]? = some fn) (hb : fn.body.isSome = true)
    (h : ∀ avs H kr, F avs H = some kr → obls kr.obl = true → ∃ H0 : List AB, Hsim H H0 ∧ ∀ (M : Nat → Prop) (vals : List Value) (w : World) (ν : Nu), (∀ k, w.heap.size ≤ k → M k) → VRs ν avs vals → RH M ν (fun b => H0.getD b .gone) w → (∀ i b, ν i = some b → i < H0.length) → Calls Tryz.prog f vals.toArray w (RetG (GivQ kr H) M ν w)) : SpecOk Tryz.prog f (specQ ros F) := by
  refine ⟨fun args w => enters f fn hf hb args w, fun avs H base δ ν vals w hS ho hv hbr hlt hfree hsep htab => ?_⟩
  unfold specQ at hS
  split at hS
  case h_2 => cases hS
  rename_i q hq
  split at hS
  case h_2 => cases hS
  rename_i hr hF
  split at hS
  case h_2 => cases hS
  rename_i v hval
  simp only [Option.some.injEq] at hS
  subst hS
  unfold viewH at hq
  generalize reach H 400 [] (idxAs avs) = keep at *
  split at hq
  case h_2 => cases hq
  rename_i avs' H1 hra hrb
  cases hnd : nodupB keep with
  | false => rw [hnd] at hq; cases hq
  | true =>
  rw [hnd] at hq
  simp only [cond_true, Option.some.injEq] at hq
  subst hq
  simp only at hval hF hbr hsep ho hfree ⊢
  have ho2 : obls hr.obl = true ∧ obls (keep.map fun i => posB (H.getD i .gone)) = true := by
    unfold obls at ho ⊢
    rw [List.all_append, Bool.and_eq_true] at ho
    exact ho
  obtain ⟨ho, hpos⟩ := ho2
  obtain ⟨hl1, hg1⟩ := renBs_get hrb
  have hlHc : (roL ros H1).length = keep.length := by rw [roL_length, hl1]
  have nuAt : ∀ {j i}, keep[j]? = some i → keepNu keep ν j = ν i := fun hj => by simp [keepNu, hj]
  have ofNu : ∀ {j b}, keepNu keep ν j = some b → ∃ i, keep[j]? = some i ∧ ν i = some b := by
    intro j b hb
    unfold keepNu at hb
    split at hb
    · rename_i i hi; exact ⟨i, hi, hb⟩
    · cases hb
  have ren_marks : ∀ {b b' : AB}, renB keep b = some b' → b'.wr = b.wr ∧ b'.live = b.live := by
    intro b b' hb
    cases b with
    | cells cs t => simp only [renB, Option.map_eq_some_iff] at hb; obtain ⟨q, _, rfl⟩ := hb; exact ⟨rfl, rfl⟩
    | row => simp only [renB, Option.some.injEq] at hb; subst hb; exact ⟨rfl, rfl⟩
    | gone => simp only [renB, Option.some.injEq] at hb; subst hb; exact ⟨rfl, rfl⟩
  -- the callee's block j is the caller's block keep j
  have view : ∀ {j i}, keep[j]? = some i → ∃ b1, H1[j]? = some b1 ∧ renB keep (H.getD i .gone) = some b1 ∧ (roL ros H1)[j]? = some (roB (ros.getD j false) b1) := by
    intro j i hj
    obtain ⟨b1, e1, e2⟩ := hg1 j i hj
    exact ⟨b1, e1, e2, by rw [roL_get, e1]; rfl⟩
  have wrOf : ∀ {j i}, keep[j]? = some i → ((roL ros H1).getD j .gone).wr = true → (H.getD i .gone).wr = true := by
    intro j i hj hw
    obtain ⟨b1, _, e2, e3⟩ := view hj
    have : (roL ros H1).getD j .gone = roB (ros.getD j false) b1 := by simp [List.getD_eq_getElem?_getD, e3]
    rw [this] at hw
    rw [← (ren_marks e2).1]
    exact roB_wr hw
  have liveOf : ∀ {j i}, keep[j]? = some i → ((roL ros H1).getD j .gone).live = true → (H.getD i .gone).live = true := by
    intro j i hj hw
    obtain ⟨b1, _, e2, e3⟩ := view hj
    have : (roL ros H1).getD j .gone = roB (ros.getD j false) b1 := by simp [List.getD_eq_getElem?_getD, e3]
    rw [this, roB_live] at hw
    rw [← (ren_marks e2).2]
    exact hw
  have roSame : ∀ {r : Bool} {b : AB}, (roB r b).wr = true → roB r b = b := by
    intro r b hw
    cases b with
    | cells => cases r <;> rfl
    | gone => cases r <;> rfl
    | row rw n wd g t => cases r <;> cases rw <;> first | rfl | cases hw
  have inPut : ∀ {j i}, keep[j]? = some i → ((roL ros H1).getD j .gone).wr = true → (i, H.getD i .gone) ∈ putH keep (roL ros H1) (keep.map fun i => H.getD i .gone) := by
    intro j i hj hw
    have hjl : j < keep.length := (List.getElem?_eq_some_iff.1 hj).1
    have hh : (roL ros H1)[j]? = some ((roL ros H1)[j]'(by omega)) := List.getElem?_eq_getElem _
    refine putH_of hj hh (by rw [List.getElem?_map, hj]; rfl) ?_
    have : (roL ros H1).getD j .gone = (roL ros H1)[j]'(by omega) := by simp [List.getD_eq_getElem?_getD, hh]
    rw [← this]; exact hw
  let M : Nat → Prop := fun k => w.heap.size ≤ k ∨ ∃ j b, ((roL ros H1).getD j .gone).wr = true ∧ keepNu keep ν j = some b ∧ b.n = k
  have hRH : RH M (keepNu keep ν) (fun b => (roL ros H1).getD b .gone) w := by
    refine ⟨fun j => ?_, fun i j b b' hne hw hlv hb hb' => ?_, fun i b hw hb => .inr ⟨i, b, hw, hb, rfl⟩, fun i b hb => ?_, htab.mono ?_⟩
    · cases hj : keep[j]? with
      | none =>
        have : (roL ros H1).getD j .gone = .gone := by
          rw [List.getD_eq_getElem?_getD, List.getElem?_eq_none]
          · rfl
          · rw [hlHc]
            exact List.getElem?_eq_none_iff.1 hj
        simp only [this]
        trivial
      | some i =>
        obtain ⟨b1, e1, e2, e3⟩ := view hj
        have : (roL ros H1).getD j .gone = roB (ros.getD j false) b1 := by simp [List.getD_eq_getElem?_getD, e3]
        simp only [this]
        refine roB_br ?_
        have hbi := hbr i (List.mem_of_getElem? hj)
        have hν := nuAt hj
        cases hi : H.getD i .gone with
        | cells cs t =>
          rw [hi] at e2 hbi
          simp only [renB, Option.map_eq_some_iff] at e2
          obtain ⟨cs', h1, h2⟩ := e2
          rw [← h2]
          obtain ⟨b, l, g1, g2, g3, g4⟩ := hbi
          exact ⟨b, l, by rw [hν]; exact g1, g2, g3, g4.ren h1⟩
        | row rw' n wd g t =>
          rw [hi] at e2 hbi
          simp only [renB, Option.some.injEq] at e2
          rw [← e2]
          rcases hbi with ⟨g1, g2, g3⟩ | ⟨b, l, t', fz, g1, g2⟩
          · exact .inl ⟨g1, g2, by rw [hν]; exact g3⟩
          · exact .inr ⟨b, l, t', fz, by rw [hν]; exact g1, g2⟩
        | gone =>
          rw [hi] at e2
          simp only [renB, Option.some.injEq] at e2
          rw [← e2]
          trivial
    · obtain ⟨i', hi, e1⟩ := ofNu hb
      obtain ⟨j', hj, e2⟩ := ofNu hb'
      have hp := inPut hi hw
      refine hsep i' _ j' b b' hp (List.mem_of_getElem? hj) (fun e => ?_) (liveOf hj hlv) e1 e2
      subst e
      exact hne (nodupB_ne hnd i j i' hi hj)
    · obtain ⟨i', _, e1⟩ := ofNu hb
      exact hlt i' b e1
    · rintro k _ (hk | ⟨j, b, hw, hb, rfl⟩)
      · exact .inl hk
      · obtain ⟨i', hi, e1⟩ := ofNu hb
        have hp := inPut hi hw
        exact .inr ⟨i', b, _, hp, e1, rfl⟩
  obtain ⟨H0, hsim, hcalls⟩ := h avs' (roL ros H1) hr hF ho
  have hl0 : H0.length = keep.length := by rw [← hsim.length, hlHc]
  have hdom0 : ∀ i b, keepNu keep ν i = some b → i < H0.length := by
    intro i b hb
    obtain ⟨i', hi, _⟩ := ofNu hb
    rw [hl0]
    exact (List.getElem?_eq_some_iff.1 hi).1
  refine (hcalls M _ w _ (fun k hk => Or.inl hk) (hv.ren hra) (hRH.sim hsim) hdom0).mono ?_
  rintro e w' ⟨vv, av, He, ν', rfl, ⟨hav, hHe⟩, hvr, hRH', hfr, hle, hdom'⟩
  simp only [List.cons.injEq, and_true] at hav
  subst hav
  have hRH2 := hRH'.sim hHe
  -- a block that may be written has a place
  have wrNu : ∀ {j : Nat}, ((roL ros H1).getD j .gone).wr = true → ∃ b, keepNu keep ν j = some b := by
    intro j hw
    have : BR (keepNu keep ν) j ((roL ros H1).getD j .gone) w := hRH.br j
    cases hb : (roL ros H1).getD j .gone with
    | cells cs t => rw [hb] at this; obtain ⟨b, l, e1, _⟩ := this; exact ⟨b, e1⟩
    | row rw' n wd g t =>
      rw [hb] at this hw
      rcases this with ⟨e1, _⟩ | ⟨b, l, t', fz, e1, _⟩
      · simp only [AB.wr] at hw
        rw [e1] at hw
        cases hw
      · exact ⟨b, e1⟩
    | gone => rw [hb] at hw; cases hw
  have mp : ∀ i i' b, (fun _ : Nat => (none : Option Nat)) i = some i' → ν' i = some b → ν i' = some b := fun i i' b h1 _ => by cases h1
  refine ⟨vv, ν, rfl, ⟨fun i b hb => hb, fun i h1 h2 => (h2 h1).elim, hvr.map mp hval, fun i b hl => ?_, fun j b hj => by simp at hj, hfr.os, hfr.tape, hfr.output, hfr.size, fun k hk hne => ?_, fun j b hj _ => absurd hj (Nat.not_lt_zero _), fun j j' b b' hne hj => absurd hj (Nat.not_lt_zero _)⟩⟩
  · obtain ⟨j, hh, e1, e2, e3, e4⟩ := putH_mem (lookB_mem hl)
    rw [List.getElem?_map, e1] at e3
    simp only [Option.map_some, Option.some.injEq] at e3
    subst e3
    obtain ⟨b1, _, v2, v3⟩ := view e1
    rw [e2, Option.some.injEq] at v3
    subst v3
    have hb1 := roSame e4
    rw [hb1] at e2
    have hout : BR ν' j b1 w' := by
      have := hRH2.br j
      simp only [List.getD_eq_getElem?_getD, e2, Option.getD_some] at this
      exact this
    have hin := hbr i (List.mem_of_getElem? e1)
    have hp : posB (H.getD i .gone) = true := by
      unfold obls at hpos
      rw [List.all_eq_true] at hpos
      exact hpos _ (List.mem_map.2 ⟨i, List.mem_of_getElem? e1, rfl⟩)
    rw [hb1] at e4
    have back : ∀ {b}, ν i = some b → ν' j = some b := fun hb => hle _ _ (by rw [nuAt e1]; exact hb)
    cases hi : H.getD i .gone with
    | cells cs t =>
      rw [hi] at v2 hin hp
      simp only [renB, Option.map_eq_some_iff] at v2
      obtain ⟨cs', h1, h2⟩ := v2
      rw [← h2] at hout
      obtain ⟨b, l, g1, g2, g3, g4⟩ := hin
      obtain ⟨b', l', f1, f2, f3, f4⟩ := hout
      have := back g1
      rw [f1, Option.some.injEq] at this
      subst this
      exact ⟨b', l', g1, f2, f3, VRs.unren hle h1 hp g4 f4⟩
    | row rw' n wd g t =>
      rw [hi] at v2 hin
      simp only [renB, Option.some.injEq] at v2
      rw [← v2] at hout e4
      simp only [AB.wr] at e4
      rcases hin with ⟨g1, _⟩ | ⟨b, l, t', fz, g1, _⟩
      · rw [g1] at e4; cases e4
      · rcases hout with ⟨f1, _⟩ | ⟨b', l', t2, fz2, f1, f2⟩
        · rw [f1] at e4; cases e4
        · have := back g1
          rw [f1, Option.some.injEq] at this
          subst this
          exact .inr ⟨b', l', t2, fz2, g1, f2⟩
    | gone =>
      rw [hi] at v2
      simp only [renB, Option.some.injEq] at v2
      rw [← v2] at e4
      cases e4
  · refine hfr.block k hk fun hM => ?_
    rcases hM with hM | ⟨j, b, hw, hb, e⟩
    · omega
    · obtain ⟨i, hi, e1⟩ := ofNu hb
      exact hne _ b (inPut hi hw) e1 e
end Go.Proofs.YtcadinbahmliiaaGreatDoor

/- Rows of entries; BookFind of both: trees. Conditions: entries, a list of wheels. -/
namespace Go.Proofs.YtcadinbahmliiaaGreatDoor
open Go.RowKit
set_option maxRecDepth 100000

abbrev rowE (ft : Nat → ByteArray) (fc : Nat → Int) : Nat → List Value := fun j => [.string (ft j), .int .u32 (fc j)]
def isE : List Value → Bool
  | [.string _, .int .u32 _] => true
  | _ => false
def stOf : Value → ByteArray
  | .string s => s
  | _ => ⟨#[]⟩
def u3Of : Value → Int
  | .int .u32 n => n
  | _ => 0
def itT (g : Nat → List Value) (j : Nat) : ByteArray := stOf ((g j).getD 0 undef)
def itC (g : Nat → List Value) (j : Nat) : Int := u3Of ((g j).getD 1 undef)
def allE (m : Nat) (g : Nat → List Value) : Bool := (List.range m).all fun j => isE (g j)
theorem allE_get {m : Nat} {g : Nat → List Value} (h : allE m g = true) (j : Nat) (hj : j < m) : g j = rowE (itT g) (itC g) j := by
  have := List.all_eq_true.1 h j (by simpa using hj)
  simp only [rowE, itT, itC]
  unfold isE at this
  split at this
  · rename_i e; rw [e]; rfl
  · cases this
theorem allE_of {m : Nat} {ft : Nat → ByteArray} {fc : Nat → Int} {g : Nat → List Value} (h : ∀ j, j < m → g j = rowE ft fc j) : allE m g = true := List.all_eq_true.2 fun j hj => by
  rw [h j (by simpa using hj)]; rfl
theorem allE_row (m : Nat) (ft : Nat → ByteArray) (fc : Nat → Int) : allE m (rowE ft fc) = true := allE_of (ft := ft) (fc := fc) fun _ _ => rfl
theorem itT_row (ft : Nat → ByteArray) (fc : Nat → Int) : itT (rowE ft fc) = ft := rfl
theorem itC_row (ft : Nat → ByteArray) (fc : Nat → Int) : itC (rowE ft fc) = fc := rfl

end Go.Proofs.YtcadinbahmliiaaGreatDoor

/- Entries in order; the reference's BookSort: trees. Conditions: entries. -/
namespace Go.Proofs.YtcadinbahmliiaaGreatDoor
open Go.RowKit
set_option maxRecDepth 100000

def lsB (s : ByteArray) (c : Int) (s2 : ByteArray) (c2 : Int) : Bool := bif c != c2 then decide (c < c2) else lessB s s2
theorem treeLs (s1 s2 : ByteArray) (c1 c2 : Int) : execF Tryz.prog g0 noLam 100 Tryz.f48 [.v (.agg ⟨[.string s1, .int .u32 c1]⟩), .v (.agg ⟨[.string s2, .int .u32 c2]⟩)] [] valK
    = bif c1 != c2 then Res.out .ret [AV.v (.bool (decide (c1 < c2)))] [] else Res.out .ret [AV.v (.bool (lessB s1 s2))] [] := by kernel_rfl

def FlsO (ls : ByteArray → Int → ByteArray → Int → Bool) : List Value → Option (Value × List Bool)
  | [.agg ⟨[.string s1, .int .u32 c1]⟩, .agg ⟨[.string s2, .int .u32 c2]⟩] => some (.bool (ls s1 c1 s2 c2), [])
  | _ => none
noncomputable abbrev fBS : Func := Tryz.f20
abbrev lvBS : Ex → List Nat := lv3 [0, 4, 5] [4] [2, 3]
abbrev lvBT : Ex → List Nat := lv3 [0, 4, 5, 6] [0, 4, 5, 6] [2, 3]
abbrev hpBS (m : Nat) (ft : Nat → ByteArray) (fc : Nat → Int) (t : TypeId) (n : Nat) (gt : Nat → ByteArray) (gc : Nat → Int) : List AB := [.row false m 2 (rowE ft fc) t, .row true n 2 (rowE gt gc) 27]
def gmBS (er : ByteArray → Int → Bool) (ls : ByteArray → Int → ByteArray → Int → Bool) : Gam := ext (ext g0 11 (specR [.val] (FerO er))) 48 (specV (FlsO ls))
theorem rndBT (er : ByteArray → Int → Bool) (ls : ByteArray → Int → ByteArray → Int → Bool) (m : Nat) (ft : Nat → ByteArray) (fc : Nat → Int) (t : TypeId) (n : Nat) (gt : Nat → ByteArray) (gc : Nat → Int) (i k : Nat) : execC Tryz.prog (gmBS er ls) 100 noLam (loopAt 2 fBS) (mkT 0 72 ((lvBT .normal).zip [.sl 0 2 0 0 m none, .own 1 n, .v (i64 i), .v (i64 k)])) (hpBS m ft fc t n gt gc) (leafV 72 lvBT 1)
    = bif decide ((↑k : Int) < (↑n : Int)) then needs [decide ((↑k : Int) < (↑n : Int)), decide (Int.toNat (↑k : Int) < n), decide ((↑i : Int) < (m : Int)), decide ((0 : Nat) + Int.toNat (↑i : Int) < m)] (bif ls (gt (Int.toNat (↑k : Int))) (gc (Int.toNat (↑k : Int))) (ft ((0 : Nat) + Int.toNat (↑i : Int))) (fc ((0 : Nat) + Int.toNat (↑i : Int))) then Res.out .normal [AV.sl 0 (2 : Nat) (0 : Nat) (0 : Nat) m none, AV.own 1 n, AV.v (.int .i64 (↑i : Int)), AV.v (.int .i64 (IntKind.wrap .i64 ((↑k : Int) + (1 : Int))))] [AB.row false m 2 (rowE ft fc) t, AB.row true n 2 (rowE gt gc) 27] else Res.out (Ex.exit (2 : Nat)) [AV.sl 0 (2 : Nat) (0 : Nat) (0 : Nat) m none, AV.own 1 n, AV.v (.int .i64 (↑i : Int)), AV.v (.int .i64 (↑k : Int))] [AB.row false m 2 (rowE ft fc) t, AB.row true n 2 (rowE gt gc) 27]) else Res.out (Ex.exit (2 : Nat)) [AV.sl 0 (2 : Nat) (0 : Nat) (0 : Nat) m none, AV.own 1 n, AV.v (.int .i64 (↑i : Int)), AV.v (.int .i64 (↑k : Int))] [AB.row false m 2 (rowE ft fc) t, AB.row true n 2 (rowE gt gc) 27] := by kernel_rfl

noncomputable abbrev lamBT (m : Nat) (ft : Nat → ByteArray) (fc : Nat → Int) (t : TypeId) (n : Nat) (gt : Nat → ByteArray) (gc : Nat → Int) (i k : Nat) : Nat → Option Sum := oneL 2 (atS 72 (lvBT .normal) 1 [.sl 0 2 0 0 m none, .own 1 n, .v (i64 i), .v (i64 (0 : Nat))] (hpBS m ft fc t n gt gc) (fun K => K .normal (mkT 0 72 [(0, .sl 0 2 0 0 m none), (4, .own 1 n), (5, .v (i64 i)), (6, .v (i64 k))]) (hpBS m ft fc t n gt gc)))
theorem rndBS_h (er : ByteArray → Int → Bool) (ls : ByteArray → Int → ByteArray → Int → Bool) (m : Nat) (ft : Nat → ByteArray) (fc : Nat → Int) (t : TypeId) (n : Nat) (gt : Nat → ByteArray) (gc : Nat → Int) (i k : Nat) (u3 : _) (hu3 : [AB.row false m 2 (rowE ft fc) t, AB.row true n 2 (rowE gt gc) 27] = u3) (u9 : _) (hu9 : (↑k : Int) = u9) (u11 : _) (hu11 : (↑n : Int) = u11) (u13 : _) (hu13 : (0 : Nat) = u13) (u15 : _) (hu15 : (↑i : Int) = u15) (u16 : _) (hu16 : (AV.own 1 n) = u16) (u2 : _) (hu2 : (u13 + Int.toNat (u9 - (0 : Int)) + (1 : Nat)) = u2) (u4 : _) (hu4 : (u13 + Int.toNat (u9 - (0 : Int))) = u4) (u5 : _) (hu5 : (u13 + Int.toNat (u9 - (0 : Int)) + (1 : Nat) + Int.toNat (u11 - u9)) = u5) (u6 : _) (hu6 : (AV.sl u13 (2 : Nat) u13 u13 m none) = u6) (u7 : _) (hu7 : (u13 + Int.toNat u15) = u7) (u8 : _) (hu8 : (AV.v (.int .i64 (IntKind.wrap .i64 (u15 + (1 : Int))))) = u8) (u10 : _) (hu10 : [u6, u16, AV.v (.int .i64 u15), AV.v (.int .i64 0)] = u10) (u12 : _) (hu12 : (decide (u13 + Int.toNat u15 < m)) = u12) (u14 : _) (hu14 : (decide (u15 < (m : Int))) = u14) (u0 : _) (hu0 : (Res.out .normal [u6, AV.own 1 u5, u8] [AB.row false m 2 (rowE ft fc) t, AB.row true u5 2 (fun q ↦ [Value.string (bif Nat.blt q u2 then bif Nat.blt q u4 then gt (u13 + (q - u13)) else ft u7 else gt (Int.toNat u9 + (q - u2))), Value.int .u32 (bif Nat.blt q u2 then bif Nat.blt q u4 then gc (u13 + (q - u13)) else fc u7 else gc (Int.toNat u9 + (q - u2)))]) (27 : Nat)]) = u0) (u1 : _) (hu1 : [decide (u9 ≤ u11), decide (u11 ≤ u11), Nat.ble n n, Nat.ble u4 (549755813888 : Nat), Nat.ble u4 n, u14, u12, Nat.ble u4 u4, Nat.ble u2 (549755813888 : Nat), decide (u9 ≤ u11), decide (u11 ≤ u11), decide (u11 ≤ u11), Nat.ble n n, Nat.ble u2 u2, Nat.ble u5 (549755813888 : Nat), Nat.ble (Int.toNat u9 + Int.toNat (u11 - u9)) n] = u1) : execC Tryz.prog (gmBS er ls) 100 (lamBT m ft fc t n gt gc i k) (loopAt 0 fBS) (mkT 0 72 ((lvBS .normal).zip [.sl 0 2 0 0 m none, .own 1 n, .v (i64 i)])) (hpBS m ft fc t n gt gc) (leafV 72 lvBS 1)
    = bif decide (u15 < (m : Int)) then needs [u14, u12] (bif !er (ft u7) (fc u7) then Res.out .normal [u6, u16, u8] u3 else needs [chk (u10 = u10 ∧ Hsim u3 (hpBS m ft fc t n gt gc))] (bif decide (u9 < u11) then needs [decide (u9 < u11), decide (Int.toNat u9 < n), u14, u12] (bif eqB (gt (Int.toNat u9)) (ft u7) && (gc (Int.toNat u9) == fc u7 && true) then Res.out .normal [u6, u16, u8] u3 else needs u1 u0) else needs u1 u0)) else Res.out (Ex.exit u13) [u16] u3 := by
  subst hu1 hu0 hu14 hu12 hu10 hu8 hu7 hu6 hu5 hu4 hu2 hu16 hu15 hu13 hu11 hu9 hu3
  kernel_rfl
theorem rndBS (er : ByteArray → Int → Bool) (ls : ByteArray → Int → ByteArray → Int → Bool) (m : Nat) (ft : Nat → ByteArray) (fc : Nat → Int) (t : TypeId) (n : Nat) (gt : Nat → ByteArray) (gc : Nat → Int) (i k : Nat) : type_of% (rndBS_h er ls m ft fc t n gt gc i k _ rfl _ rfl _ rfl _ rfl _ rfl _ rfl _ rfl _ rfl _ rfl _ rfl _ rfl _ rfl _ rfl _ rfl _ rfl _ rfl _ rfl) := rndBS_h er ls m ft fc t n gt gc i k _ rfl _ rfl _ rfl _ rfl _ rfl _ rfl _ rfl _ rfl _ rfl _ rfl _ rfl _ rfl _ rfl _ rfl _ rfl _ rfl _ rfl

theorem rndBE (er : ByteArray → Int → Bool) (ls : ByteArray → Int → ByteArray → Int → Bool) (m : Nat) (ft : Nat → ByteArray) (fc : Nat → Int) (t : TypeId) (n : Nat) (gt : Nat → ByteArray) (gc : Nat → Int) (i : Nat) : execC Tryz.prog (gmBS er ls) 100 (oneL 2 errS) (loopAt 0 fBS) (mkT 0 72 ((lvBS .normal).zip [.sl 0 2 0 0 m none, .own 1 n, .v (i64 i)])) (hpBS m ft fc t n gt gc) (leafV 72 lvBS 1)
    = bif decide ((↑i : Int) < (m : Int)) then needs [decide ((↑i : Int) < (m : Int)), decide ((0 : Nat) + Int.toNat (↑i : Int) < m), !er (ft ((0 : Nat) + Int.toNat (↑i : Int))) (fc ((0 : Nat) + Int.toNat (↑i : Int)))] (Res.out .normal [AV.sl 0 (2 : Nat) (0 : Nat) (0 : Nat) m none, AV.own 1 n, AV.v (.int .i64 (IntKind.wrap .i64 ((↑i : Int) + (1 : Int))))] [AB.row false m 2 (rowE ft fc) t, AB.row true n 2 (rowE gt gc) 27]) else Res.out (Ex.exit (0 : Nat)) [AV.own 1 n] [AB.row false m 2 (rowE ft fc) t, AB.row true n 2 (rowE gt gc) 27] := by kernel_rfl

noncomputable abbrev lamBS (m : Nat) (ft : Nat → ByteArray) (fc : Nat → Int) (t : TypeId) (n2 : Nat) (g2 : Nat → ByteArray) (c2 : Nat → Int) : Nat → Option Sum := oneL 0 (atS 72 (lvBS .normal) 1 [.sl 0 2 0 0 m none, .own 1 0, .v (i64 (0 : Nat))] (hpBS m ft fc t 0 (fun _ => ⟨⟨[]⟩⟩) (fun _ => 0)) (fun K => K .normal (mkT 0 72 [(4, .own 1 n2)]) (hpBS m ft fc t n2 g2 c2)))
theorem treeBS (er : ByteArray → Int → Bool) (ls : ByteArray → Int → ByteArray → Int → Bool) (m : Nat) (ft : Nat → ByteArray) (fc : Nat → Int) (t : TypeId) (n2 : Nat) (g2 : Nat → ByteArray) (c2 : Nat → Int) : execF Tryz.prog (gmBS er ls) (lamBS m ft fc t n2 g2 c2) 100 fBS [.sl 0 2 0 0 m none] [.row false m 2 (rowE ft fc) t] (packK 1)
    = bif decide ((m : Int) > (50 : Int)) then Res.out .ret [AV.tup [AV.own 1 (0 : Nat), AV.v (.bool false)]] [AB.row false m 2 (rowE ft fc) t, AB.row true (0 : Nat) (2 : Nat) (fun _ ↦ []) (27 : Nat)] else needs [chk ([AV.sl 0 (2 : Nat) (0 : Nat) (0 : Nat) m none, AV.own 1 (0 : Nat), AV.v (.int .i64 0)] = [AV.sl 0 (2 : Nat) (0 : Nat) (0 : Nat) m none, AV.own 1 (0 : Nat), AV.v (.int .i64 0)] ∧ Hsim [AB.row false m 2 (rowE ft fc) t, AB.row true (0 : Nat) (2 : Nat) (fun _ ↦ []) (27 : Nat)] (hpBS m ft fc t (0 : Nat) (fun _ ↦ ByteArray.mk (Array.mk [])) fun _ ↦ (0 : Int)))] (Res.out .ret [AV.tup [AV.own 1 n2, AV.v (.bool true)]] [AB.row false m 2 (rowE ft fc) t, AB.row true n2 2 (rowE g2 c2) 27]) := by kernel_rfl

theorem treeBS0 (er : ByteArray → Int → Bool) (ls : ByteArray → Int → ByteArray → Int → Bool) (m : Nat) (ft : Nat → ByteArray) (fc : Nat → Int) (t : TypeId) : execF Tryz.prog (gmBS er ls) (oneL 0 errS) 100 fBS [.sl 0 2 0 0 m none] [.row false m 2 (rowE ft fc) t] (packK 1)
    = needs [decide ((m : Int) > (50 : Int))] (Res.out .ret [AV.tup [AV.own 1 (0 : Nat), AV.v (.bool false)]] [AB.row false m 2 (rowE ft fc) t, AB.row true (0 : Nat) (2 : Nat) (fun _ ↦ []) (27 : Nat)]) := by kernel_rfl

end Go.Proofs.YtcadinbahmliiaaGreatDoor

/- The reference's BookSort: its word. Conditions: entries, at most 50. -/
namespace Go.Proofs.YtcadinbahmliiaaGreatDoor
open Go.RowKit
set_option maxRecDepth 100000

def eT (L : List (ByteArray × Int)) (j : Nat) : ByteArray := (L.getD j (⟨⟨[]⟩⟩, 0)).1
def eC (L : List (ByteArray × Int)) (j : Nat) : Int := (L.getD j (⟨⟨[]⟩⟩, 0)).2
def posL : List (ByteArray × Int) → ByteArray → Int → Nat
  | [], _, _ => 0
  | y :: L, s, c => bif lsB y.1 y.2 s c then posL L s c + 1 else 0
def hasK (L : List (ByteArray × Int)) (s : ByteArray) (c : Int) : Bool := decide (posL L s c < L.length) && (eqB (eT L (posL L s c)) s && (eC L (posL L s c) == c))
def insL (L : List (ByteArray × Int)) (s : ByteArray) (c : Int) : List (ByteArray × Int) := bif hasK L s c then L else L.take (posL L s c) ++ (s, c) :: L.drop (posL L s c)
def bkL (er : ByteArray → Int → Bool) (ft : Nat → ByteArray) (fc : Nat → Int) : Nat → List (ByteArray × Int)
  | 0 => []
  | i + 1 => bif er (ft i) (fc i) then insL (bkL er ft fc i) (ft i) (fc i) else bkL er ft fc i
theorem posL_le (L : List (ByteArray × Int)) (s : ByteArray) (c : Int) : posL L s c ≤ L.length := by
  induction L with
  | nil => exact Nat.le_refl _
  | cons y L ih =>
    unfold posL
    cases lsB y.1 y.2 s c with
    | true => simp only [cond_true, List.length_cons]; omega
    | false => simp only [cond_false, List.length_cons]; omega
theorem posL_at {L : List (ByteArray × Int)} {s : ByteArray} {c : Int} {k : Nat} (hk : k ≤ L.length) (h1 : ∀ j, j < k → lsB (eT L j) (eC L j) s c = true) (h2 : k = L.length ∨ lsB (eT L k) (eC L k) s c = false) : posL L s c = k := by
  induction L generalizing k with
  | nil => simp only [List.length_nil] at hk; unfold posL; omega
  | cons y L ih =>
    unfold posL
    match k with
    | 0 =>
      have h2 := h2.resolve_left (by simp)
      have : lsB y.1 y.2 s c = false := h2
      rw [this]; rfl
    | k + 1 =>
      have : lsB y.1 y.2 s c = true := h1 0 (by omega)
      rw [this, cond_true, ih (k := k) (by simp only [List.length_cons] at hk; omega) (fun j hj => h1 (j + 1) (by omega)) (h2.imp (fun h => by simp only [List.length_cons] at h; omega) fun h => h)]
theorem insL_len (L : List (ByteArray × Int)) (s : ByteArray) (c : Int) : (insL L s c).length ≤ L.length + 1 := by
  have := posL_le L s c
  unfold insL
  cases hasK L s c with
  | true => simp only [cond_true]; omega
  | false => simp only [cond_false, List.length_append, List.length_take, List.length_cons, List.length_drop]; omega
theorem bkL_len (er : ByteArray → Int → Bool) (ft : Nat → ByteArray) (fc : Nat → Int) (i : Nat) : (bkL er ft fc i).length ≤ i := by
  induction i with
  | zero => exact Nat.le_refl _
  | succ i ih =>
    unfold bkL
    have := insL_len (bkL er ft fc i) (ft i) (fc i)
    cases er (ft i) (fc i) with
    | true => simp only [cond_true]; omega
    | false => simp only [cond_false]; omega
theorem ins_row {L : List (ByteArray × Int)} {s : ByteArray} {c : Int} {q : Nat} (hh : hasK L s c = false) (hq : q < posL L s c + 1 + (L.length - posL L s c)) :
    [Value.string (bif Nat.blt q (posL L s c + 1) then bif Nat.blt q (posL L s c) then eT L q else s else eT L (posL L s c + (q - (posL L s c + 1)))), Value.int .u32 (bif Nat.blt q (posL L s c + 1) then bif Nat.blt q (posL L s c) then eC L q else c else eC L (posL L s c + (q - (posL L s c + 1))))] = rowE (eT (insL L s c)) (eC (insL L s c)) q := by
  have hp := posL_le L s c
  have e : insL L s c = L.take (posL L s c) ++ (s, c) :: L.drop (posL L s c) := by rw [insL, hh]; rfl
  have hlen : (L.take (posL L s c)).length = posL L s c := by rw [List.length_take]; omega
  have key : (insL L s c).getD q (⟨⟨[]⟩⟩, 0) = bif Nat.blt q (posL L s c + 1) then (bif Nat.blt q (posL L s c) then L.getD q (⟨⟨[]⟩⟩, 0) else (s, c)) else L.getD (posL L s c + (q - (posL L s c + 1))) (⟨⟨[]⟩⟩, 0) := by
    rw [e]
    simp only [List.getD_eq_getElem?_getD]
    by_cases h1 : q < posL L s c
    · rw [blt_yes (by omega), blt_yes h1, List.getElem?_append_left (by omega), List.getElem?_take_of_lt h1]
      rfl
    · rw [List.getElem?_append_right (by omega), hlen]
      by_cases h2 : q = posL L s c
      · rw [blt_yes (by omega), show Nat.blt q (posL L s c) = false by rw [Bool.eq_false_iff, ne_eq, Nat.blt_eq]; omega, show q - posL L s c = 0 by omega]
        rfl
      · rw [show Nat.blt q (posL L s c + 1) = false by rw [Bool.eq_false_iff, ne_eq, Nat.blt_eq]; omega, show q - posL L s c = (q - (posL L s c + 1)) + 1 by omega, List.getElem?_cons_succ, List.getElem?_drop]
        rfl
  simp only [rowE, eT, eC, key]
  cases Nat.blt q (posL L s c + 1) with
  | false => rfl
  | true =>
    cases Nat.blt q (posL L s c) with
    | false => rfl
    | true => rfl

theorem ok_lsS : SpecOk Tryz.prog 48 (specV (FlsO lsB)) := by
  refine mkV (n := 100) g0_ok Tryz.func48 rfl fun vs v ob hF ho => ?_
  unfold FlsO at hF
  split at hF
  · rename_i s1 c1 s2 c2
    cases hF
    show Good (execF Tryz.prog g0 noLam 100 Tryz.f48 [.v (.agg ⟨[.string s1, .int .u32 c1]⟩), .v (.agg ⟨[.string s2, .int .u32 c2]⟩)] [] valK) _
    rw [treeLs, lsB]
    cases h : c1 != c2 with
    | true => exact one rfl
    | false => exact one rfl
  · cases hF
theorem gmBS_ok : GamOk Tryz.prog (gmBS erB lsB) := ext_ok (ext_ok g0_ok ok_erS) ok_lsS
theorem sumBT (m : Nat) (ft : Nat → ByteArray) (fc : Nat → Int) (t : TypeId) (L : List (ByteArray × Int)) (i : Nat) (hL : L.length ≤ 2 ^ 30) (hi : i < m) :
    SumOk Tryz.prog 1 (.block 2 (.loop (loopAt 2 fBS))) (atS 72 (lvBT .normal) 1 [.sl 0 2 0 0 m none, .own 1 L.length, .v (i64 i), .v (i64 (0 : Nat))] (hpBS m ft fc t L.length (eT L) (eC L)) (fun K => K .normal (mkT 0 72 [(0, .sl 0 2 0 0 m none), (4, .own 1 L.length), (5, .v (i64 i)), (6, .v (i64 (posL L (ft i) (fc i) : Nat)))]) (hpBS m ft fc t L.length (eT L) (eC L)))) := by
  refine for_at gmBS_ok (n := 100) (m := 1) (lv := lvBT) (fun k => [.sl 0 2 0 0 m none, .own 1 L.length, .v (i64 i), .v (i64 (k : Nat))]) (fun _ => hpBS m ft fc t L.length (eT L) (eC L)) (fun k => ∀ j, j < k → lsB (eT L j) (eC L j) (ft i) (fc i) = true) L.length (fun _ => noLam) (lv3_ris rfl rfl rfl) (Nat.le_refl _) (fun j hj => absurd hj (Nat.not_lt_zero j)) fun K Q hk k hi2 him => ⟨noLam_ok _ _ _, ?_⟩
  rw [rndBT]
  have out : (k = L.length ∨ lsB (eT L k) (eC L k) (ft i) (fc i) = false) → RoundV 72 2 lvBT (fun k => [.sl 0 2 0 0 m none, .own 1 L.length, .v (i64 i), .v (i64 (k : Nat))]) (fun _ => hpBS m ft fc t L.length (eT L) (eC L)) (fun s' => s' = k + 1 ∧ k < L.length ∧ ∀ j, j < k + 1 → lsB (eT L j) (eC L j) (ft i) (fc i) = true) K Q (.exit 2) [.sl 0 2 0 0 m none, .own 1 L.length, .v (i64 i), .v (i64 (k : Nat))] (hpBS m ft fc t L.length (eT L) (eC L)) := fun h => by
    refine ⟨_, Hsim.refl _, ?_⟩
    rw [if_pos rfl]
    rw [posL_at him hi2 h] at hk
    exact hk
  refine good_cond (fun c1 => ?_) fun c1 => ?_
  · have c1 := of_decide_eq_true c1
    have c1' : k < L.length := by omega
    simp only [Int.toNat_natCast, Nat.zero_add]
    rw [wr_in (x := (k : Int) + 1) (by omega)]
    refine good_needs (by simp only [ob_cons, ob_nil, and_true, decide_eq_true_eq]; omega) (good_cond (fun q => good_out ⟨k + 1, ⟨rfl, c1', fun j hj => ?_⟩, rfl, Hsim.refl _⟩) fun q => good_out (out (.inr q)))
    by_cases e : j = k
    · rw [e]; exact q
    · exact hi2 j (by omega)
  · have c1 := of_decide_eq_false c1
    exact good_out (out (.inl (by omega)))
theorem sumBS (m : Nat) (ft : Nat → ByteArray) (fc : Nat → Int) (t : TypeId) (hm : m ≤ 2 ^ 30) :
    SumOk Tryz.prog 1 (.block 0 (.loop (loopAt 0 fBS))) (atS 72 (lvBS .normal) 1 [.sl 0 2 0 0 m none, .own 1 0, .v (i64 (0 : Nat))] (hpBS m ft fc t 0 (fun _ => ⟨⟨[]⟩⟩) (fun _ => 0)) (fun K => K .normal (mkT 0 72 [(4, .own 1 (bkL erB ft fc m).length)]) (hpBS m ft fc t (bkL erB ft fc m).length (eT (bkL erB ft fc m)) (eC (bkL erB ft fc m))))) := by
  refine for_at gmBS_ok (n := 100) (m := 1) (lv := lvBS) (fun i => [.sl 0 2 0 0 m none, .own 1 (bkL erB ft fc i).length, .v (i64 (i : Nat))]) (fun i => hpBS m ft fc t (bkL erB ft fc i).length (eT (bkL erB ft fc i)) (eC (bkL erB ft fc i))) (fun _ => True) m (fun i => bif Nat.blt i m then lamBT m ft fc t (bkL erB ft fc i).length (eT (bkL erB ft fc i)) (eC (bkL erB ft fc i)) i (posL (bkL erB ft fc i) (ft i) (fc i)) else oneL 2 errS) (lv3_ris rfl rfl rfl) (Nat.le_refl _) trivial fun K Q hk i hi him => ?_
  have hl := bkL_len erB ft fc i
  by_cases c : i < m
  · rw [blt_yes c, cond_true]
    refine ⟨lamC (by kernel_rfl) (sumBT m ft fc t (bkL erB ft fc i) i (by omega) c), ?_⟩
    have hp := posL_le (bkL erB ft fc i) (ft i) (fc i)
    rw [rndBS]
    refine good_cond (fun _ => ?_) fun c1 => absurd (of_decide_eq_false c1) (by omega)
    simp only [Int.toNat_natCast, Nat.zero_add]
    rw [wr_in (x := (i : Int) + 1) (by omega)]
    have keep : bkL erB ft fc (i + 1) = bkL erB ft fc i → RoundV 72 0 lvBS (fun i => [.sl 0 2 0 0 m none, .own 1 (bkL erB ft fc i).length, .v (i64 (i : Nat))]) (fun i => hpBS m ft fc t (bkL erB ft fc i).length (eT (bkL erB ft fc i)) (eC (bkL erB ft fc i))) (fun s' => s' = i + 1 ∧ i < m ∧ True) K Q .normal [.sl 0 2 0 0 m none, .own 1 (bkL erB ft fc i).length, .v (i64 ((i : Int) + 1))] (hpBS m ft fc t (bkL erB ft fc i).length (eT (bkL erB ft fc i)) (eC (bkL erB ft fc i))) := fun h =>
      ⟨i + 1, ⟨rfl, c, trivial⟩, by simp only [h]; rfl, by simp only [h]; exact Hsim.refl _⟩
    refine good_needs (by simp only [ob_cons, ob_nil, and_true, decide_eq_true_eq]; omega) (good_cond (fun q => good_out (keep ?_)) fun q => ?_)
    · rw [Bool.not_eq_true'] at q
      rw [bkL, q]; rfl
    · rw [Bool.not_eq_false'] at q
      have e0 : (((posL (bkL erB ft fc i) (ft i) (fc i) : Nat) : Int) - 0).toNat = posL (bkL erB ft fc i) (ft i) (fc i) := by omega
      have e1 : (((bkL erB ft fc i).length : Int) - ((posL (bkL erB ft fc i) (ft i) (fc i) : Nat) : Int)).toNat = (bkL erB ft fc i).length - posL (bkL erB ft fc i) (ft i) (fc i) := by omega
      simp only [e0, e1, Nat.sub_zero, Bool.and_true]
      have put : hasK (bkL erB ft fc i) (ft i) (fc i) = false → RoundV 72 0 lvBS (fun i => [.sl 0 2 0 0 m none, .own 1 (bkL erB ft fc i).length, .v (i64 (i : Nat))]) (fun i => hpBS m ft fc t (bkL erB ft fc i).length (eT (bkL erB ft fc i)) (eC (bkL erB ft fc i))) (fun s' => s' = i + 1 ∧ i < m ∧ True) K Q .normal [.sl 0 2 0 0 m none, .own 1 (posL (bkL erB ft fc i) (ft i) (fc i) + 1 + ((bkL erB ft fc i).length - posL (bkL erB ft fc i) (ft i) (fc i))), .v (i64 ((i : Int) + 1))] [.row false m 2 (rowE ft fc) t, .row true (posL (bkL erB ft fc i) (ft i) (fc i) + 1 + ((bkL erB ft fc i).length - posL (bkL erB ft fc i) (ft i) (fc i))) 2 (fun q => [Value.string (bif Nat.blt q (posL (bkL erB ft fc i) (ft i) (fc i) + 1) then bif Nat.blt q (posL (bkL erB ft fc i) (ft i) (fc i)) then eT (bkL erB ft fc i) q else ft i else eT (bkL erB ft fc i) (posL (bkL erB ft fc i) (ft i) (fc i) + (q - (posL (bkL erB ft fc i) (ft i) (fc i) + 1)))), Value.int .u32 (bif Nat.blt q (posL (bkL erB ft fc i) (ft i) (fc i) + 1) then bif Nat.blt q (posL (bkL erB ft fc i) (ft i) (fc i)) then eC (bkL erB ft fc i) q else fc i else eC (bkL erB ft fc i) (posL (bkL erB ft fc i) (ft i) (fc i) + (q - (posL (bkL erB ft fc i) (ft i) (fc i) + 1))))]) 27] := fun h => by
        have e : bkL erB ft fc (i + 1) = insL (bkL erB ft fc i) (ft i) (fc i) := by rw [bkL, q]; rfl
        have hlen : (insL (bkL erB ft fc i) (ft i) (fc i)).length = posL (bkL erB ft fc i) (ft i) (fc i) + 1 + ((bkL erB ft fc i).length - posL (bkL erB ft fc i) (ft i) (fc i)) := by
          rw [insL, h]
          simp only [cond_false, List.length_append, List.length_take, List.length_cons, List.length_drop]
          omega
        refine ⟨i + 1, ⟨rfl, c, trivial⟩, ?_, ?_⟩
        · simp only [e, hlen]; rfl
        · simp only [e, hlen]
          exact .cons (ABeq.refl _) (.cons (ABeq.row fun q hq => ins_row h hq) .nil)
      refine good_needs (by simp only [ob_cons, ob_nil, and_true]; exact chk_of ⟨trivial, Hsim.refl _⟩) (good_cond (fun c2 => ?_) fun c2 => ?_)
      · have c2' := of_decide_eq_true c2
        have c3 : posL (bkL erB ft fc i) (ft i) (fc i) < (bkL erB ft fc i).length := by omega
        refine good_needs (by simp only [ob_cons, ob_nil, and_true, decide_eq_true_eq]; omega) (good_cond (fun q2 => good_out (keep ?_)) fun q2 => good_needs (by simp only [ob_cons, ob_nil, and_true, decide_eq_true_eq, Nat.ble_eq]; omega) (good_out (put ?_)))
        · rw [bkL, q, cond_true, insL, hasK, decide_eq_true c3, q2]; rfl
        · rw [hasK, decide_eq_true c3, q2]; rfl
      · have c2' := of_decide_eq_false c2
        refine good_needs (by simp only [ob_cons, ob_nil, and_true, decide_eq_true_eq, Nat.ble_eq]; omega) (good_out (put ?_))
        rw [hasK, decide_eq_false (by omega)]; rfl
  · have : i = m := by omega
    subst this
    rw [show Nat.blt i i = false by rw [Bool.eq_false_iff, ne_eq, Nat.blt_eq]; omega, cond_false]
    refine ⟨lamC (c := loopAt 2 fBS) (by kernel_rfl) errS_ok, ?_⟩
    rw [rndBE]
    refine good_cond (fun c1 => absurd (of_decide_eq_true c1) (by omega)) fun _ => good_out ⟨_, Hsim.refl _, ?_⟩
    rw [if_pos rfl]
    exact hk

end Go.Proofs.YtcadinbahmliiaaGreatDoor

/- Plain: entries in order. No conditions. -/
namespace Go.Proofs.YtcadinbahmliiaaGreatDoor
open Go.RowKit

theorem toL_inj {a b : ByteArray} (h : a.toList = b.toList) : a = b := eqB_eq (decide_eq_true h)
theorem bl_irr : ∀ x : List UInt8, Op.bytesLess x x = false
  | [] => rfl
  | a :: x => by
    rw [Op.bytesLess, bl_irr x, Bool.and_false, Bool.or_false, decide_eq_false_iff_not]
    exact UInt8.lt_irrefl a
theorem bl_trans : ∀ x y z : List UInt8, Op.bytesLess x y = true → Op.bytesLess y z = true → Op.bytesLess x z = true
  | [], _, [], _, h => by cases ‹List UInt8› <;> simp [Op.bytesLess] at h
  | [], _, _ :: _, _, _ => rfl
  | _ :: _, [], _, h, _ => by simp [Op.bytesLess] at h
  | _ :: _, _ :: _, [], _, h => by simp [Op.bytesLess] at h
  | a :: x, b :: y, c :: z, h1, h2 => by
    simp only [Op.bytesLess, Bool.or_eq_true, decide_eq_true_eq, Bool.and_eq_true, beq_iff_eq] at h1 h2 ⊢
    rcases h1 with h1 | ⟨h1, h1'⟩
    · rcases h2 with h2 | ⟨h2, _⟩
      · exact .inl (UInt8.lt_trans h1 h2)
      · exact .inl (h2 ▸ h1)
    · rcases h2 with h2 | ⟨h2, h2'⟩
      · exact .inl (h1 ▸ h2)
      · exact .inr ⟨h1.trans h2, bl_trans x y z h1' h2'⟩
theorem bl_tot : ∀ x y : List UInt8, Op.bytesLess x y = false → Op.bytesLess y x = false → x = y
  | [], [], _, _ => rfl
  | [], _ :: _, h, _ => by simp [Op.bytesLess] at h
  | _ :: _, [], _, h => by simp [Op.bytesLess] at h
  | a :: x, b :: y, h1, h2 => by
    simp only [Op.bytesLess, Bool.or_eq_false_iff, decide_eq_false_iff_not, Bool.and_eq_false_iff, beq_eq_false_iff_ne] at h1 h2
    have e : a = b := UInt8.le_antisymm (UInt8.not_lt.1 h2.1) (UInt8.not_lt.1 h1.1)
    subst e
    rw [bl_tot x y (h1.2.resolve_left fun h => h rfl) (h2.2.resolve_left fun h => h rfl)]

abbrev ltP (x y : ByteArray × Int) : Bool := lsB x.1 x.2 y.1 y.2
theorem ltP_iff (x y : ByteArray × Int) : ltP x y = true ↔ x.2 < y.2 ∨ (x.2 = y.2 ∧ lessB x.1 y.1 = true) := by
  unfold ltP lsB
  cases h : x.2 != y.2 with
  | true =>
    have := bne_iff_ne.1 h
    simp only [cond_true, decide_eq_true_eq]
    exact ⟨.inl, fun h => h.resolve_right fun h => this h.1⟩
  | false =>
    have : x.2 = y.2 := by simpa using h
    simp only [cond_false]
    exact ⟨fun h => .inr ⟨this, h⟩, fun h => (h.resolve_left (by omega)).2⟩
theorem ltP_irr (x : ByteArray × Int) : ltP x x = false := by
  rw [Bool.eq_false_iff, ne_eq, ltP_iff]
  rintro (h | ⟨_, h⟩)
  · omega
  · rw [lessB, bl_irr] at h; cases h
theorem ltP_trans {x y z : ByteArray × Int} (h1 : ltP x y = true) (h2 : ltP y z = true) : ltP x z = true := by
  rw [ltP_iff] at h1 h2 ⊢
  rcases h1 with h1 | ⟨h1, h1'⟩
  · rcases h2 with h2 | ⟨h2, _⟩
    · exact .inl (by omega)
    · exact .inl (by omega)
  · rcases h2 with h2 | ⟨h2, h2'⟩
    · exact .inl (by omega)
    · exact .inr ⟨by omega, bl_trans _ _ _ h1' h2'⟩
theorem ltP_tot {x y : ByteArray × Int} (h1 : ltP x y = false) (h2 : ltP y x = false) : x = y := by
  rw [Bool.eq_false_iff, ne_eq, ltP_iff] at h1 h2
  have e : x.2 = y.2 := by omega
  have e1 : x.1.toList = y.1.toList := bl_tot _ _ (by
    rw [Bool.eq_false_iff]
    exact fun h => h1 (.inr ⟨e, h⟩)) (by
    rw [Bool.eq_false_iff]
    exact fun h => h2 (.inr ⟨e.symm, h⟩))
  obtain ⟨s, c⟩ := x
  obtain ⟨s2, c2⟩ := y
  simp only at e e1
  rw [e, toL_inj e1]

def insR : List (ByteArray × Int) → ByteArray × Int → List (ByteArray × Int)
  | [], x => [x]
  | y :: L, x => bif ltP y x then y :: insR L x else bif eqB y.1 x.1 && (y.2 == x.2) then y :: L else x :: y :: L
theorem insL_eq (L : List (ByteArray × Int)) (x : ByteArray × Int) : insL L x.1 x.2 = insR L x := by
  induction L with
  | nil => rfl
  | cons y L ih =>
    cases h : lsB y.1 y.2 x.1 x.2 with
    | true =>
      have hp : posL (y :: L) x.1 x.2 = posL L x.1 x.2 + 1 := by rw [posL, h]; rfl
      have hh : hasK (y :: L) x.1 x.2 = hasK L x.1 x.2 := by
        unfold hasK
        rw [hp]
        simp only [List.length_cons, Nat.add_lt_add_iff_right]
        rfl
      rw [insR, show ltP y x = true from h, cond_true, ← ih]
      unfold insL
      rw [hp, hh]
      cases hasK L x.1 x.2 <;> rfl
    | false =>
      have hp : posL (y :: L) x.1 x.2 = 0 := by rw [posL, h]; rfl
      have hh : hasK (y :: L) x.1 x.2 = (eqB y.1 x.1 && (y.2 == x.2)) := by
        unfold hasK
        rw [hp, decide_eq_true (by simp : 0 < (y :: L).length), Bool.true_and]
        rfl
      rw [insR, show ltP y x = false from h, cond_false]
      unfold insL
      rw [hp, hh]
      rfl
def SortE (L : List (ByteArray × Int)) : Prop := L.Pairwise fun x y => ltP x y = true
theorem eqP_iff {x y : ByteArray × Int} : (eqB x.1 y.1 && (x.2 == y.2)) = true ↔ x = y := by
  obtain ⟨s, c⟩ := x
  obtain ⟨s2, c2⟩ := y
  rw [Bool.and_eq_true, beq_iff_eq, eqB, decide_eq_true_eq]
  constructor
  · rintro ⟨h1, h2⟩
    simp only at h1 h2
    rw [toL_inj h1, h2]
  · intro h
    cases h
    exact ⟨rfl, rfl⟩
theorem mem_insR {L : List (ByteArray × Int)} {x z : ByteArray × Int} : z ∈ insR L x ↔ z ∈ L ∨ z = x := by
  induction L with
  | nil => simp [insR]
  | cons y L ih =>
    unfold insR
    cases h : ltP y x with
    | true => simp only [cond_true, List.mem_cons, ih]; grind
    | false =>
      cases h2 : eqB y.1 x.1 && (y.2 == x.2) with
      | true =>
        have := eqP_iff.1 h2
        simp only [cond_false, cond_true, List.mem_cons]
        subst this
        grind
      | false => simp only [cond_false, List.mem_cons]; grind
theorem sort_insR {L : List (ByteArray × Int)} (hL : SortE L) (x : ByteArray × Int) : SortE (insR L x) := by
  induction L with
  | nil => exact List.pairwise_singleton _ _
  | cons y L ih =>
    unfold SortE at hL ⊢
    rw [List.pairwise_cons] at hL
    unfold insR
    cases h : ltP y x with
    | true =>
      rw [cond_true, List.pairwise_cons]
      refine ⟨fun z hz => ?_, ih hL.2⟩
      rcases mem_insR.1 hz with hz | rfl
      · exact hL.1 z hz
      · exact h
    | false =>
      cases h2 : eqB y.1 x.1 && (y.2 == x.2) with
      | true => rw [cond_false, cond_true, List.pairwise_cons]; exact hL
      | false =>
        have hx : ltP x y = true := by
          cases h3 : ltP x y with
          | true => rfl
          | false => rw [eqP_iff.2 (ltP_tot h h3)] at h2; cases h2
        rw [cond_false, cond_false, List.pairwise_cons, List.pairwise_cons]
        refine ⟨fun z hz => ?_, hL⟩
        rcases List.mem_cons.1 hz with rfl | hz
        · exact hx
        · exact ltP_trans hx (hL.1 z hz)
theorem mem_bkL {er : ByteArray → Int → Bool} {ft : Nat → ByteArray} {fc : Nat → Int} {m : Nat} {z : ByteArray × Int} : z ∈ bkL er ft fc m ↔ ∃ i, i < m ∧ er (ft i) (fc i) = true ∧ z = (ft i, fc i) := by
  induction m with
  | zero => simp [bkL]
  | succ m ih =>
    unfold bkL
    cases h : er (ft m) (fc m) with
    | true =>
      rw [cond_true, show insL (bkL er ft fc m) (ft m) (fc m) = insR (bkL er ft fc m) (ft m, fc m) from insL_eq (bkL er ft fc m) (ft m, fc m), mem_insR, ih]
      constructor
      · rintro (⟨i, h1, h2⟩ | rfl)
        · exact ⟨i, by omega, h2⟩
        · exact ⟨m, by omega, h, rfl⟩
      · rintro ⟨i, h1, h2, h3⟩
        by_cases e : i = m
        · subst e; exact .inr h3
        · exact .inl ⟨i, by omega, h2, h3⟩
    | false =>
      rw [cond_false, ih]
      constructor
      · rintro ⟨i, h1, h2⟩
        exact ⟨i, by omega, h2⟩
      · rintro ⟨i, h1, h2, h3⟩
        by_cases e : i = m
        · subst e; rw [h] at h2; cases h2
        · exact ⟨i, by omega, h2, h3⟩
theorem sort_bkL (er : ByteArray → Int → Bool) (ft : Nat → ByteArray) (fc : Nat → Int) (m : Nat) : SortE (bkL er ft fc m) := by
  induction m with
  | zero => exact List.Pairwise.nil
  | succ m ih =>
    unfold bkL
    cases er (ft m) (fc m) with
    | true => rw [cond_true, show insL (bkL er ft fc m) (ft m) (fc m) = insR (bkL er ft fc m) (ft m, fc m) from insL_eq (bkL er ft fc m) (ft m, fc m)]; exact sort_insR ih _
    | false => exact ih
theorem sort_uniq : ∀ {L M : List (ByteArray × Int)}, SortE L → SortE M → (∀ z, z ∈ L ↔ z ∈ M) → L = M
  | [], [], _, _, _ => rfl
  | [], y :: M, _, _, h => absurd ((h y).2 List.mem_cons_self) (by simp)
  | x :: L, [], _, _, h => absurd ((h x).1 List.mem_cons_self) (by simp)
  | x :: L, y :: M, hL, hM, h => by
    have hL' := List.pairwise_cons.1 hL
    have hM' := List.pairwise_cons.1 hM
    have e : x = y := by
      rcases List.mem_cons.1 ((h x).1 List.mem_cons_self) with e | hx
      · exact e
      · rcases List.mem_cons.1 ((h y).2 List.mem_cons_self) with e | hy
        · exact e.symm
        · have h1 := ltP_trans (hM'.1 x hx) (hL'.1 y hy)
          rw [ltP_irr] at h1
          cases h1
    subst e
    rw [sort_uniq hL'.2 hM'.2 fun z => ?_]
    have hz := h z
    rw [List.mem_cons, List.mem_cons] at hz
    constructor
    · intro h1
      rcases hz.1 (.inr h1) with rfl | h2
      · have h3 := hL'.1 z h1; rw [ltP_irr] at h3; cases h3
      · exact h2
    · intro h1
      rcases hz.2 (.inr h1) with rfl | h2
      · have h3 := hM'.1 z h1; rw [ltP_irr] at h3; cases h3
      · exact h2
theorem eTC (L : List (ByteArray × Int)) (i : Nat) (h : i < L.length) : (eT L i, eC L i) = L[i] := by
  simp only [eT, eC, List.getD_eq_getElem?_getD, List.getElem?_eq_getElem h, Option.getD_some]
end Go.Proofs.YtcadinbahmliiaaGreatDoor

/- The order of a book: one list, however it came; slices.SortFunc laid. No conditions. -/
namespace Go.Proofs.YtcadinbahmliiaaGreatDoor
open Go.RowKit Go.Shelf Go.Sort
set_option maxRecDepth 100000

def Tryz.laysSort_ren : Go.Shelf.Ren := ⟨fun | 6 => 89 | 15 => 135 | 14 => 134 | 28 => 184 | 29 => 185 | 20 => 176 | 21 => 177 | 22 => 178 | 23 => 179 | 24 => 180 | 25 => 181 | 26 => 182 | 27 => 183 | 46 => 208 | 47 => 209 | 48 => 210 | 49 => 211 | 50 => 212 | 57 => 230 | n => n, fun | 22 => 41 | 24 => 27 | 25 => 89 | 3 => 3 | 39 => 172 | 0 => 0 | 53 => 22 | 55 => 206 | 4 => 4 | 46 => 199 | 45 => 198 | 50 => 57 | 5 => 5 | 9 => 9 | 66 => 228 | 70 => 232 | 76 => 249 | 77 => 250 | n => n, fun | n => n⟩
theorem Tryz.laysSort : Go.Proofs.SlLaysF0.n6 Tryz.prog Tryz.laysSort_ren := {
  mixed := by kernel_rfl
  f6 := ⟨Tryz.f89.name, by decide, Tryz.func89.trans (congrArg some (by kernel_rfl))⟩
  f14 := ⟨Tryz.f134.name, by decide, Tryz.func134.trans (congrArg some (by kernel_rfl))⟩
  f15 := Tryz.func135.trans (congrArg some (by kernel_rfl))
  f20 := ⟨Tryz.f176.name, by decide, Tryz.func176.trans (congrArg some (by kernel_rfl))⟩
  f21 := ⟨Tryz.f177.name, by decide, Tryz.func177.trans (congrArg some (by kernel_rfl))⟩
  f22 := ⟨Tryz.f178.name, by decide, Tryz.func178.trans (congrArg some (by kernel_rfl))⟩
  f23 := ⟨Tryz.f179.name, by decide, Tryz.func179.trans (congrArg some (by kernel_rfl))⟩
  f24 := ⟨Tryz.f180.name, by decide, Tryz.func180.trans (congrArg some (by kernel_rfl))⟩
  f25 := ⟨Tryz.f181.name, by decide, Tryz.func181.trans (congrArg some (by kernel_rfl))⟩
  f26 := ⟨Tryz.f182.name, by decide, Tryz.func182.trans (congrArg some (by kernel_rfl))⟩
  f27 := ⟨Tryz.f183.name, by decide, Tryz.func183.trans (congrArg some (by kernel_rfl))⟩
  f28 := Tryz.func184.trans (congrArg some (by kernel_rfl))
  f29 := Tryz.func185.trans (congrArg some (by kernel_rfl))
  f46 := ⟨Tryz.f208.name, by decide, Tryz.func208.trans (congrArg some (by kernel_rfl))⟩
  f47 := Tryz.func209.trans (congrArg some (by kernel_rfl))
  f48 := Tryz.func210.trans (congrArg some (by kernel_rfl))
  f49 := ⟨Tryz.f211.name, by decide, Tryz.func211.trans (congrArg some (by kernel_rfl))⟩
  f50 := ⟨Tryz.f212.name, by decide, Tryz.func212.trans (congrArg some (by kernel_rfl))⟩
  f57 := ⟨Tryz.f230.name, by decide, Tryz.func230.trans (congrArg some (by kernel_rfl))⟩
  t0 := Tryz.underlying0
  a0 := Tryz.isAgg0
  z0 := Tryz.sizeOf0
  v0 := Tryz.zeroValue0
  t3 := Tryz.underlying3
  a3 := Tryz.isAgg3
  z3 := Tryz.sizeOf3
  v3 := Tryz.zeroValue3
  t4 := Tryz.underlying4
  a4 := Tryz.isAgg4
  z4 := Tryz.sizeOf4
  v4 := Tryz.zeroValue4
  t5 := Tryz.underlying5
  a5 := Tryz.isAgg5
  z5 := Tryz.sizeOf5
  v5 := Tryz.zeroValue5
  t9 := Tryz.underlying9
  a9 := Tryz.isAgg9
  z9 := Tryz.sizeOf9
  v9 := Tryz.zeroValue9
  t22 := Tryz.underlying41
  a22 := Tryz.isAgg41
  z22 := Tryz.sizeOf41
  v22 := Tryz.zeroValue41
  t25 := Tryz.underlying89
  a25 := Tryz.isAgg89
  z25 := Tryz.sizeOf89
  v25 := Tryz.zeroValue89
  t39 := Tryz.underlying172
  a39 := Tryz.isAgg172
  z39 := Tryz.sizeOf172
  v39 := Tryz.zeroValue172
  t45 := Tryz.underlying198
  a45 := Tryz.isAgg198
  z45 := Tryz.sizeOf198
  v45 := Tryz.zeroValue198
  t46 := Tryz.underlying199
  a46 := Tryz.isAgg199
  z46 := Tryz.sizeOf199
  v46 := Tryz.zeroValue199
  t50 := Tryz.underlying57
  a50 := Tryz.isAgg57
  z50 := Tryz.sizeOf57
  v50 := Tryz.zeroValue57
  t53 := Tryz.underlying22
  a53 := Tryz.isAgg22
  z53 := Tryz.sizeOf22
  v53 := Tryz.zeroValue22
  t55 := Tryz.underlying206
  a55 := Tryz.isAgg206
  z55 := Tryz.sizeOf206
  v55 := Tryz.zeroValue206
  t66 := Tryz.underlying228
  a66 := Tryz.isAgg228
  z66 := Tryz.sizeOf228
  v66 := Tryz.zeroValue228
  t70 := Tryz.underlying232
  a70 := Tryz.isAgg232
  z70 := Tryz.sizeOf232
  v70 := Tryz.zeroValue232
  t76 := Tryz.underlying249
  a76 := Tryz.isAgg249
  z76 := Tryz.sizeOf249
  v76 := Tryz.zeroValue249
  t77 := Tryz.underlying250
  a77 := Tryz.isAgg250
  z77 := Tryz.sizeOf250
  v77 := Tryz.zeroValue250 }

def encL (x : ByteArray × Int) : List Value := [.string x.1, .int .u32 x.2]
def cfE (x y : ByteArray × Int) : Int := bif ltP x y then -1 else bif ltP y x then 1 else 0
theorem lt_cfE (x y : ByteArray × Int) : ltOf cfE x y = ltP x y := by
  unfold ltOf cfE
  cases ltP x y <;> cases ltP y x <;> rfl
theorem swo_cfE : SWO (ltOf cfE) where
  irrefl x := by rw [lt_cfE]; exact ltP_irr x
  trans x y z h1 h2 := by
    rw [lt_cfE] at *
    exact ltP_trans h1 h2
  ntrans x y z h1 h2 := by
    rw [lt_cfE] at *
    cases h3 : ltP x z with
    | false => rfl
    | true =>
      cases h4 : ltP z y with
      | true => rw [ltP_trans h3 h4] at h1; cases h1
      | false => rw [← ltP_tot h2 h4, h1] at h3; cases h3
theorem tot_cfE (x y : ByteArray × Int) (h1 : ltOf cfE x y = false) (h2 : ltOf cfE y x = false) : x = y := by
  rw [lt_cfE] at h1 h2
  exact ltP_tot h1 h2
theorem sorted_bk {er : ByteArray → Int → Bool} {ft : Nat → ByteArray} {fc : Nat → Int} {m : Nat} {ss : List (ByteArray × Int)} (hn : ss.Nodup) (hm : ∀ z, z ∈ ss ↔ z ∈ bkL er ft fc m) : (ss.mergeSort fun x y => !ltOf cfE y x) = bkL er ft fc m := by
  have hp := List.mergeSort_perm ss fun x y => !ltOf cfE y x
  refine sort_uniq ?_ (sort_bkL er ft fc m) fun z => by rw [hp.mem_iff]; exact hm z
  have h1 : (ss.mergeSort fun x y => !ltOf cfE y x).Pairwise fun x y => (!ltOf cfE y x) = true := by
    refine List.pairwise_mergeSort (fun a b c h1 h2 => ?_) (fun a b => ?_) ss
    · rw [Bool.not_eq_true'] at *
      exact swo_cfE.ntrans c b a h2 h1
    · rw [lt_cfE, lt_cfE]
      cases h : ltP a b with
      | false => cases ltP b a <;> rfl
      | true =>
        cases h2 : ltP b a with
        | false => rfl
        | true => have := ltP_trans h h2; rw [ltP_irr] at this; cases this
  have h2 : (ss.mergeSort fun x y => !ltOf cfE y x).Pairwise fun x y => x ≠ y := (hp.nodup_iff).2 hn
  refine (List.pairwise_and_iff.2 ⟨h1, h2⟩).imp fun {x y} ⟨h3, h4⟩ => ?_
  rw [Bool.not_eq_true', lt_cfE] at h3
  cases h5 : ltP x y with
  | true => rfl
  | false => exact (h4 (ltP_tot h5 h3)).elim

end Go.Proofs.YtcadinbahmliiaaGreatDoor

/- slices.AppendSeq of entries: trees. No conditions. -/
namespace Go.Proofs.YtcadinbahmliiaaGreatDoor
open Go.RowKit
set_option maxRecDepth 100000

noncomputable abbrev fAq : Func := Tryz.f133
noncomputable def aqB : Code := fAq.body.getD .skip
noncomputable def aqP0 : Code := sqA aqB
noncomputable def aqP2 : Code := sqA (sqA (sqB aqB))
noncomputable def arA : Code → Code | .rangeFunc _ _ a _ => a | c => c
noncomputable def arB : Code → Code | .rangeFunc _ _ _ b => b | c => c
noncomputable def aqAs : Code := arA (blB (sqB (sqA (sqB aqB))))
noncomputable def aqBd : Code := arB (blB (sqB (sqA (sqB aqB))))
noncomputable def aqRest : Code := sqB (sqB aqB)
theorem bodyAq : fAq.body = some (nestL [aqP0] (.seq (.seq aqP2 (.block 0 (.rangeFunc (.tmp 6) #[7] aqAs aqBd))) aqRest)) := by kernel_rfl
abbrev fnKs (bm : Nat) : AV := .fn 90 [.v (.pointer (some ⟨bm, 0, none⟩))]
def TTaq (bm : Nat) : List AV := mkT 0 13 [(2, .ptr 0 0 0 0), (6, fnKs bm)]
def TLaq : List AV := mkT 0 13 [(2, .ptr 0 0 0 0)]
def hp0a : List AB := [.cells [.v (.slice none 0 0)] 41]
def hp1a (n : Nat) (ft : Nat → ByteArray) (fc : Nat → Int) : List AB := [.cells [.own 1 n] 41, .row true n 2 (rowE ft fc) 27]
theorem preAq (bm : Nat) : execL Tryz.prog g0 100 [aqP0, aqP2] ([.v (.slice none 0 0), fnKs bm] ++ List.replicate 11 (.v undef)) [] (leafK (lv3 [2, 6] [] []) 0) = .out .normal (TTaq bm) hp0a := by kernel_rfl
theorem rndAq0 (s : ByteArray) (c : Int) : execC Tryz.prog g0 100 noLam aqAs (parT [7] [.agg ⟨[.string s, .int .u32 c]⟩] TLaq) hp0a (andK Tryz.prog g0 100 aqBd 1)
    = Res.out .normal [AV.dead, AV.dead, AV.dead, AV.dead, AV.dead, AV.dead, AV.dead, AV.dead, AV.dead, AV.dead, AV.dead, AV.dead, AV.dead] [AB.cells [AV.own 1 (1 : Nat)] 41, AB.row true (1 : Nat) (2 : Nat) (fun _ ↦ [Value.string s, Value.int .u32 c]) (27 : Nat)] := by kernel_rfl

theorem rndAq1 (n : Nat) (ft : Nat → ByteArray) (fc : Nat → Int) (s : ByteArray) (c : Int) : execC Tryz.prog g0 100 noLam aqAs (parT [7] [.agg ⟨[.string s, .int .u32 c]⟩] TLaq) (hp1a n ft fc) (andK Tryz.prog g0 100 aqBd 1)
    = needs [Nat.ble n n, Nat.ble (n + (1 : Nat)) (549755813888 : Nat)] (Res.out .normal [AV.dead, AV.dead, AV.dead, AV.dead, AV.dead, AV.dead, AV.dead, AV.dead, AV.dead, AV.dead, AV.dead, AV.dead, AV.dead] [AB.cells [AV.own 1 (n + (1 : Nat))] 41, AB.row true (n + (1 : Nat)) (2 : Nat) (fun q ↦ [Value.string (bif Nat.blt q n then ft q else s), Value.int .u32 (bif Nat.blt q n then fc q else c)]) (27 : Nat)]) := by kernel_rfl

theorem endAq0 : behind Tryz.prog g0 100 fAq 0 aqRest (packK 0) .normal TLaq hp0a = .out .ret [.v (.slice none 0 0)] [] := by kernel_rfl
theorem endAq1 (n : Nat) (ft : Nat → ByteArray) (fc : Nat → Int) : behind Tryz.prog g0 100 fAq 0 aqRest (packK 0) .normal TLaq (hp1a n ft fc)
    = Res.out .ret [AV.own 0 n] [AB.row true n 2 (rowE ft fc) 27] := by kernel_rfl

end Go.Proofs.YtcadinbahmliiaaGreatDoor

/- maps.Keys of a map of entries: what its iterator gives. Conditions: the map stands. -/
namespace Go.Proofs.YtcadinbahmliiaaGreatDoor
open Go.RowKit
open Go.Maps (Keyed KeysOf)

set_option maxRecDepth 100000 in
set_option maxHeartbeats 4000000 in
theorem keys1_in {nn : Nat} (hn : 1 ≤ nn) (l Bm b n : Nat) (D0 : DataW Unit) (wk : World) (M : Nat → Prop) (J Jx : List (ByteArray × Int) → World → Prop)
    (hY : ∀ pre x W1, J pre W1 → pre.length < Maps.size D0 → YieldAt (wideR none) (nn - 1) Tryz.prog l #[encE x] W1 fun e W' => (e = .returned (.bool true) ∧ J (pre ++ [x]) W' ∧ keepW wk M W1 W') ∨ (e = .returned (.bool false) ∧ Jx (pre ++ [x]) W'))
    (W : World) (hJ : AbidesFrom W.heap.size J) (hm : W.cell? ⟨Bm, 0, none⟩ = some (.map (some b))) (hown : W.ownsMap Tryz.prog 27 (plainElem Tryz.prog 4) b n D0) (h0 : J [] W) :
    CallsIn (wideR none) nn Tryz.prog 90 #[.func (.yield l) #[] #[], .pointer (some ⟨Bm, 0, none⟩)] W fun e W' => (∃ v, e = .returned v) ∧ ((∃ ss, (ss.Nodup ∧ ∀ x, x ∈ ss ↔ hasE D0 x) ∧ J ss W') ∨ ∃ pre : List (ByteArray × Int), True ∧ Jx pre W') := by
  have tB : Tryz.prog.underlying 4 = some .bool := by kernel_rfl
  have tM : Tryz.prog.underlying 81 = some (.map 27 4) := by kernel_rfl
  have uB := run_underlying tB; have uM := run_underlying tM; have uE := run_underlying und_E
  have aE := Tryz.isAgg27; have zE := Tryz.sizeOf27; have vE := Tryz.zeroValue27
  have aM := Tryz.isAgg81; have zM := Tryz.sizeOf81
  have aB := Tryz.isAgg4; have zB := Tryz.sizeOf4; have vB := Tryz.zeroValue4
  have mixed := mixed
  have hro : Fence.wide.round = none := rfl
  simp only [wideR_none] at hY ⊢
  refine callsIn_of_wp Tryz.func90 rfl trivial ?_ rfl
  simp only [Tryz.ntmps90, List.size_toArray, List.length_cons, List.length_nil, Nat.reduceAdd, Nat.reduceSub, Array.replicate_succ, Array.replicate_zero, List.push_toArray, List.append_toArray, List.nil_append, List.cons_append]
  gi_wp2_with (first
    | (gi_at_range; refine wpListIn_range_own _ rfl _ 81 rfl 27 4 keyed_E tM _ b n _ rfl hown ?_; intro w0 hrg0 hg0 hs0)
    | gi_in)
  go_frame
  gi_loopw [] (fun wr => ∃ (left : Lit → Bool) (cnt : Nat) (ss : List (ByteArray × Int)), wr.ranges Tryz.prog 27 (plainElem Tryz.prog 4) b W.heap.size n D0 left cnt ∧ ss.length + cnt ≤ Maps.size D0 ∧ CollE D0 left ss ∧ J ss wr)
    (fun wr => wr.rangeLeft b W.heap.size)
  case atStart =>
    exact ⟨_, _, [], hrg0, by simp, CollE.start D0, hJ [] W w0 none h0 hg0 (fun r e => by cases e)⟩
  case round =>
    obtain ⟨left, cnt, ss, hrg, hcs, hC, hJs⟩ := hrel
    gi_wp2_with (first
      | (gi_at_next; refine wpListIn_next_ranges _ rfl _ rfl 27 keyed_E (plainElem Tryz.prog 4) encE id (fun key kl hk => keyOf_E_inv hk) (fun v _ _ => ⟨v, rfl⟩) b W.heap.size n _ _ _ rfl hrg ?_ ?_)
      | gi_in)
    · intro hc0 hl0
      gi_wp2
      go_end0
      exact ⟨⟨_, rfl⟩, .inl ⟨ss, hC.done hl0, hJs⟩⟩
    · intro s0 k0 c kl yd yp w2 cnt2 hkey hlk hv hat hrg2 hlt hg2 hs2 hen
      have hJ2 : J ss w2 := hJ ss wr w2 (some W.heap.size) hJs hg2 (fun r e => by cases e; exact ⟨Nat.le_refl _, hrg.iter_walk⟩)
      have eE : encE (s0, k0) = .agg #[.string s0, .int .u32 k0] := rfl
      simp only [eE] at hen ⊢
      clear hs2
      have hJ3 := hJ ss w2 (w2.alloc (.cells #[.string s0, .int .u32 k0] 27)) none hJ2 (World.grownBy_alloc _ _ _) (fun r e => by cases e)
      obtain ⟨fn, tmps, assign, body, hy, hR⟩ := hY ss (s0, k0) _ hJ3 (by omega)
      simp only [eE] at hy
      gi_wp2
      refine hR.mono ?_
      have hC2 := hC.step hkey hlk hat
      rintro e W3 (⟨rfl, hJ4, hk3⟩ | ⟨rfl, hJx3⟩)
      · gi_wp2
        have hrg3 := (hrg2.alloc _).of_walks hk3.2
        go_roundw
        case rel => exact ⟨_, cnt2, ss ++ [(s0, k0)], hrg3, by simp; omega, hC2, hJ4⟩
        case measure => rw [hrg3.left_eq, hrg.left_eq]; exact hlt
      · gi_wp2
        refine bodyPost_ret (results_none rfl _ _ _) rfl ?_
        exact ⟨⟨_, rfl⟩, .inr ⟨ss ++ [(s0, k0)], trivial, hJx3⟩⟩

theorem keys_stops {nn : Nat} (hn : 1 ≤ nn) (Bm b n : Nat) (D0 : DataW Unit) (w : World) (M : Nat → Prop) (hBm : Bm < w.heap.size) (hm : w.cell? ⟨Bm, 0, none⟩ = some (.map (some b))) (hown : w.ownsMap Tryz.prog 27 (plainElem Tryz.prog 4) b n D0) :
    SeqStopsK (wideR none) nn Tryz.prog 90 #[.pointer (some ⟨Bm, 0, none⟩)] (fun x => #[encE x]) (keepW w M) (fun ss => ss.Nodup ∧ ∀ x, x ∈ ss ↔ hasE D0 x) (fun _ => True) (Maps.size D0) w := fun l J Jx W hW hJ _ hY h0 => by
  have hown' : W.ownsMap Tryz.prog 27 (plainElem Tryz.prog 4) b n D0 := by
    have hbl := hown.lt
    obtain ⟨es, clock, hb, Ft, hs, hD⟩ := hown
    exact ⟨es, clock, (hW.block b hbl).trans hb, Ft, hs, hD⟩
  exact keys1_in hn l Bm b n D0 w M J Jx hY W hJ ((hW.cell (p := ⟨Bm, 0, none⟩) hBm).trans hm) hown' h0

end Go.Proofs.YtcadinbahmliiaaGreatDoor

/- slices.Collect of the keys of a map of entries: each key once. Conditions: the map stands. -/
namespace Go.Proofs.YtcadinbahmliiaaGreatDoor
open Go.RowKit
set_option maxRecDepth 100000

def hpa : List (ByteArray × Int) → List AB
  | [] => hp0a
  | x :: l => hp1a (x :: l).length (eT (x :: l)) (eC (x :: l))
theorem hpa_ne {L : List (ByteArray × Int)} (h : L ≠ []) : hpa L = hp1a L.length (eT L) (eC L) := by
  cases L with
  | nil => exact (h rfl).elim
  | cons => rfl
theorem eT_snoc (L : List (ByteArray × Int)) (x : ByteArray × Int) {q : Nat} (h : q < L.length + 1) : eT (L ++ [x]) q = (bif Nat.blt q L.length then eT L q else x.1) ∧ eC (L ++ [x]) q = bif Nat.blt q L.length then eC L q else x.2 := by
  simp only [eT, eC, List.getD_eq_getElem?_getD]
  cases hb : Nat.blt q L.length with
  | true =>
    rw [Nat.blt_eq] at hb
    rw [List.getElem?_append_left hb]
    exact ⟨rfl, rfl⟩
  | false =>
    have hb' : ¬ q < L.length := fun h => by rw [← Nat.blt_eq, hb] at h; cases h
    have : q = L.length := by omega
    subst this
    rw [List.getElem?_append_right (Nat.le_refl _), Nat.sub_self]
    exact ⟨rfl, rfl⟩
def KeysE (D0 : DataW Unit) (ss : List (ByteArray × Int)) : Prop := ss.Nodup ∧ ∀ x, x ∈ ss ↔ hasE D0 x
def qAq (D0 : DataW Unit) : Ex → List AV → List AB → Prop := fun _ l H' => ∃ ss, KeysE D0 ss ∧ ((ss = [] ∧ l = [.v (.slice none 0 0)] ∧ H' = []) ∨ (ss ≠ [] ∧ l = [.own 0 ss.length] ∧ H' = [.row true ss.length 2 (rowE (eT ss) (eC ss)) 27]))
structure MapAt (bm b n : Nat) (D0 : DataW Unit) (M : Nat → Prop) (w : World) : Prop where
  lt : bm < w.heap.size
  box : w.cell? ⟨bm, 0, none⟩ = some (.map (some b))
  own : w.ownsMap Tryz.prog 27 (plainElem Tryz.prog 4) b n D0
  no1 : ¬ M bm
  no2 : ¬ M b
theorem MapAt.fr {bm b n : Nat} {D0 : DataW Unit} {M : Nat → Prop} {w W : World} (h : MapAt bm b n D0 M w) (hf : Fr M w W) : bm < W.heap.size ∧ W.cell? ⟨bm, 0, none⟩ = some (.map (some b)) ∧ W.ownsMap Tryz.prog 27 (plainElem Tryz.prog 4) b n D0 := by
  refine ⟨Nat.lt_of_lt_of_le h.lt hf.size, ?_, ?_⟩
  · have := hf.block bm h.lt h.no1
    have hb := h.box
    simp only [World.cell?] at hb ⊢
    rw [this]
    exact hb
  · have hl := h.own.lt
    obtain ⟨es, clock, hb, F, hs, hD⟩ := h.own
    exact ⟨es, clock, (hf.block b hl h.no2).trans hb, F, hs, hD⟩
theorem roundAq {D0 : DataW Unit} (hN : Maps.size D0 ≤ 549755813888) (pre : List (ByteArray × Int)) (x : ByteArray × Int) (hl : pre.length < Maps.size D0) :
    (execC Tryz.prog g0 100 noLam aqAs (parT [7] [encE x] TLaq) (hpa pre) (andK Tryz.prog g0 100 aqBd 1)).ok (RoundJ (fun _ => True) (fun _ _ => False) hpa (fun _ => hpa) (pre ++ [x])) := by
  cases pre with
  | nil =>
    suffices h : GoodQ (execC Tryz.prog g0 100 noLam aqAs (parT [7] [.agg ⟨[.string x.1, .int .u32 x.2]⟩] TLaq) hp0a (andK Tryz.prog g0 100 aqBd 1)) (RoundJ (fun _ => True) (fun _ _ => False) hpa (fun _ => hpa) ([] ++ [x])) from h.out
    rw [rndAq0]
    refine good_out ⟨trivial, .cons (ABeq.refl _) (.cons (ABeq.row fun j hj => ?_) .nil)⟩
    have : j = 0 := by omega
    subst this
    rfl
  | cons y l =>
    suffices h : GoodQ (execC Tryz.prog g0 100 noLam aqAs (parT [7] [.agg ⟨[.string x.1, .int .u32 x.2]⟩] TLaq) (hp1a (y :: l).length (eT (y :: l)) (eC (y :: l))) (andK Tryz.prog g0 100 aqBd 1)) (RoundJ (fun _ => True) (fun _ _ => False) hpa (fun _ => hpa) ((y :: l) ++ [x])) from h.out
    rw [rndAq1]
    generalize hpre : y :: l = pre at *
    refine good_needs (by simp only [ob_cons, ob_nil, and_true, Nat.ble_eq]; omega) (good_out ⟨trivial, ?_⟩)
    rw [hpa_ne (by simp), List.length_append]
    refine .cons (ABeq.refl _) (.cons (ABeq.row fun j hj => ?_) .nil)
    obtain ⟨e1, e2⟩ := eT_snoc pre x hj
    simp only [rowE, e1, e2]
theorem run_aq {bm b n : Nat} {D0 : DataW Unit} (hN : Maps.size D0 ≤ 549755813888) (M : Nat → Prop) (vals : List Value) (w : World) (ν : Nu) (hI : MapAt bm b n D0 M w) (hM : ∀ k, w.heap.size ≤ k → M k) (hv : VRs ν [.v (.slice none 0 0), fnKs bm] vals) (hR : RH M ν (fun b => ([] : List AB).getD b .gone) w)
    (hdom : ∀ i b, ν i = some b → i < ([] : List AB).length) : Calls Tryz.prog 133 vals.toArray w (RetG (qAq D0) M ν w) := by
  refine calls_rangeI (α := ByteArray × Int) (n := 100) (nn := 1) g0_ok mixed enters Tryz.func133 bodyAq (by kernel_rfl) (by kernel_rfl) (by kernel_rfl) (by kernel_rfl) (by kernel_rfl) (lvp := lv3 [2, 6] [] []) (TT := TTaq bm) (HH := hp0a) (H0 := [])
    (encs := fun x => [encE x]) (S := KeysE D0) (Sp := fun _ => True) (N := Maps.size D0) ?_ (gf := 90) (cs := [.v (.pointer (some ⟨bm, 0, none⟩))]) (by kernel_rfl) TLaq (by kernel_rfl) (mask_less (live := [2]) (by kernel_rfl)) (fun _ => True) (fun _ _ => False) hpa (fun _ => hpa) rfl (fun i => .inl rfl)
    (fun args w => enters _ _ Tryz.func90 rfl args w) (fun M w _ => MapAt bm b n D0 M w) (fun M w ν W ν1 a1 lb hI hM hS hS1 hv => ?_) (fun _ => rfl) (fun p hp => by simp only [List.mem_singleton] at hp; subst hp; exact Nat.lt_of_lt_of_eq (by decide : 7 < 13) rfl) trivial (fun pre x _ hl => roundAq hN pre x hl) (fun xs hxs _ => ?_) (fun e pre hne hlv hsp => hlv.elim) M vals w ν hI hM hv hR hdom
  · show (execL Tryz.prog g0 100 [aqP0, aqP2] ([.v (.slice none 0 0), fnKs bm] ++ List.replicate 11 (.v undef)) [] (leafK (lv3 [2, 6] [] []) 0)).ok _
    rw [preAq]
    exact ⟨rfl, rfl, rfl⟩
  · match lb, hv with
    | [y], hv =>
      simp only [VRs, VR, and_true] at hv
      subst hv
      obtain ⟨h1, h2, h3⟩ := hI.fr hS.fr
      exact keys_stops (Nat.le_refl _) bm b n D0 W _ h1 h2 h3
  · cases xs with
    | nil =>
      show (behind Tryz.prog g0 100 fAq 0 aqRest (packK 0) .normal TLaq hp0a).ok (qAq D0)
      rw [endAq0]
      exact ⟨[], hxs, .inl ⟨rfl, rfl, rfl⟩⟩
    | cons y l =>
      show (behind Tryz.prog g0 100 fAq 0 aqRest (packK 0) .normal TLaq (hp1a (y :: l).length (eT (y :: l)) (eC (y :: l)))).ok (qAq D0)
      rw [endAq1]
      exact ⟨y :: l, hxs, .inr ⟨by simp, rfl, rfl⟩⟩

def OwnE (base : Nat) (v : Value) (ss : List (ByteArray × Int)) (W : World) : Prop :=
  (ss = [] ∧ v = .slice none 0 0) ∨ (ss ≠ [] ∧ ∃ (blk cap : Nat) (l : List Value), v = .slice (some ⟨blk, 0, none⟩) ss.length cap ∧ base ≤ blk ∧ W.heap[blk]? = some (.cells (List.toArray l) 27 (0, 0)) ∧ l.length = cap * 2 ∧ cap ≤ maxLen ∧ ss.length ≤ cap ∧ ∀ j, j < ss.length → ∀ k, k < 2 → l[j * 2 + k]? = (rowE (eT ss) (eC ss) j)[k]?)
theorem calls_aq {bm b n : Nat} {D0 : DataW Unit} (hN : Maps.size D0 ≤ 549755813888) (w : World) (hI : MapAt bm b n D0 (fun k => w.heap.size ≤ k) w) (htab : TabOk (fun k => w.heap.size ≤ k) w) :
    Calls Tryz.prog 133 #[.slice none 0 0, .func (.func 90) #[] #[.pointer (some ⟨bm, 0, none⟩)]] w fun e w' => ∃ v ss, e = .returned v ∧ KeysE D0 ss ∧ OwnE w.heap.size v ss w' ∧ Fr (fun k => w.heap.size ≤ k) w w' := by
  refine (run_aq hN (fun k => w.heap.size ≤ k) [.slice none 0 0, .func (.func 90) #[] #[.pointer (some ⟨bm, 0, none⟩)]] w (fun _ => none) hI (fun _ hk => hk) (by simp only [VRs, VR, and_true, true_and]; exact ⟨[_], rfl, by simp only [VRs, VR, and_true]⟩)
    ⟨fun i => trivial, fun i j b b' _ h => by simp [AB.wr] at h, fun i b h => by simp [AB.wr] at h, (fun i b h => by cases h), htab⟩ (fun i b h => by cases h)).mono ?_
  rintro e w' ⟨v, av, H', ν', rfl, ⟨ss, hss, hc⟩, hvr, hRH, hfr, _, _⟩
  refine ⟨v, ss, rfl, hss, ?_, hfr⟩
  rcases hc with ⟨rfl, h1, rfl⟩ | ⟨hne, h1, rfl⟩
  · simp only [List.cons.injEq, and_true] at h1
    subst h1
    simp only [VR] at hvr
    exact .inl ⟨rfl, hvr⟩
  · simp only [List.cons.injEq, and_true] at h1
    subst h1
    simp only [VR] at hvr
    obtain ⟨bb, e1, rfl⟩ := hvr
    refine .inr ⟨hne, ?_⟩
    rcases hRH.br 0 with ⟨h, _⟩ | ⟨bc, l, t', fz, e2, e3, h3, h4, h5⟩
    · cases h
    · rw [e1] at e2
      cases e2
      obtain ⟨rfl, h6, rfl, h7, h8⟩ := h3 rfl
      refine ⟨bb.n, bb.c, l, by rw [h6], hRH.own 0 bb rfl e1, e3, h7, h8, h4, fun j hj k hk => ?_⟩
      have := (h5 j hj).2 k hk
      rw [h6, Nat.zero_add] at this
      exact this

end Go.Proofs.YtcadinbahmliiaaGreatDoor

/- The program's BookSort: its pieces. Conditions: entries. -/
namespace Go.Proofs.YtcadinbahmliiaaGreatDoor
open Go.RowKit
set_option maxRecDepth 100000

noncomputable abbrev fBk : Func := Tryz.f22
noncomputable def kB : Code := fBk.body.getD .skip
noncomputable def klp : Code → Code | .loop c => c | c => c
noncomputable def kth : Code → Code | .cond _ a _ => a | c => c
noncomputable def kops : Code → Array Oper | .region _ o _ => o | _ => #[]
noncomputable def kR0 : Code := sqA kB
noncomputable def kR1 : Code := sqA (sqA (sqB kB))
noncomputable def kR2 : Code := kth (sqB (sqA (sqB kB)))
noncomputable def kO3 : Array Oper := kops (sqA (sqB (sqB kB)))
noncomputable def kR4 : Code := sqA (sqA (sqB (sqB (sqB kB))))
noncomputable def kL : Code := klp (blB (sqB (sqA (sqB (sqB (sqB kB))))))
noncomputable def kR5 : Code := sqA kL
noncomputable def kR6 : Code := sqA (blB (sqA (sqB (sqB kL))))
noncomputable def kR7 : Code := sqA (sqB (blB (sqA (sqB (sqB kL)))))
noncomputable def kO8 : Array Oper := kops (kth (sqB (sqB (blB (sqA (sqB (sqB kL)))))))
noncomputable def kR9 : Code := sqB (sqB (sqB kL))
noncomputable def kO10 : Array Oper := kops (sqA (sqB (sqB (sqB (sqB kB)))))
noncomputable def kRz : Code := sqB (sqB (sqB (sqB (sqB kB))))
theorem bodyBk : fBk.body = some (.seq kR0 (.seq (.seq kR1 (.cond (.tmp 10) kR2 .skip)) (.seq (.region 3 kO3 false) (.seq (.seq kR4 (.block 0 (.loop kL))) (.seq (.region 10 kO10 false) kRz))))) := by kernel_rfl
theorem loopBk : kL = .seq kR5 (.seq (.cond (.tmp 15) .skip (.exit 0)) (.seq (.block 1 (.seq kR6 (.seq kR7 (.cond (.tmp 19) (.region 8 kO8 false) .skip)))) kR9)) := by kernel_rfl
abbrev hpB (m : Nat) (ft : Nat → ByteArray) (fc : Nat → Int) : List AB := [.row false m 2 (rowE ft fc) 27]
abbrev hpB1 (m : Nat) (ft : Nat → ByteArray) (fc : Nat → Int) (i : Nat) : List AB := [.row false m 2 (rowE ft fc) 27, .cells [.v (.string (ft i)), .v (.int .u32 (fc i))] 27]
abbrev lsA (m : Nat) : AV := .sl 0 2 0 0 m none
def kT0 (m : Nat) : List AV := mkT 0 28 [(0, lsA m)]
def kT1 (m : Nat) (q : Bool) : List AV := mkT 0 28 [(0, lsA m), (10, .v (.bool q))]
def kT3 (m b : Nat) : List AV := mkT 0 28 [(0, lsA m), (4, .v (.map (some b)))]
def kT4 (m b i : Nat) : List AV := mkT 0 28 [(4, .v (.map (some b))), (12, lsA m), (13, .v (i64 m)), (14, .v (i64 i))]
def kT5 (m b i : Nat) (q : Bool) : List AV := mkT 0 28 [(4, .v (.map (some b))), (12, lsA m), (13, .v (i64 m)), (14, .v (i64 i)), (15, .v (.bool q))]
def kT6 (m b i : Nat) : List AV := mkT 0 28 [(4, .v (.map (some b))), (6, .ptr 1 0 0 0), (12, lsA m), (13, .v (i64 m)), (14, .v (i64 i))]
def kT7 (m b i : Nat) (q : Bool) : List AV := mkT 0 28 [(4, .v (.map (some b))), (6, .ptr 1 0 0 0), (12, lsA m), (13, .v (i64 m)), (14, .v (i64 i)), (19, .v (.bool q))]
def gmBk (er : ByteArray → Int → Bool) : Gam := ext g0 13 (specR [.val] (FerO er))
theorem trK0 (m : Nat) (ft : Nat → ByteArray) (fc : Nat → Int) : execC Tryz.prog g0 100 noLam kR0 ([lsA m] ++ List.replicate 27 (.v undef)) (hpB m ft fc) (leafK (lv3 [0] [] []) 1)
    = Res.out .normal [AV.sl 0 (2 : Nat) (0 : Nat) (0 : Nat) m none, AV.dead, AV.dead, AV.dead, AV.dead, AV.dead, AV.dead, AV.dead, AV.dead, AV.dead, AV.dead, AV.dead, AV.dead, AV.dead, AV.dead, AV.dead, AV.dead, AV.dead, AV.dead, AV.dead, AV.dead, AV.dead, AV.dead, AV.dead, AV.dead, AV.dead, AV.dead, AV.dead] [AB.row false m 2 (rowE ft fc) 27] := by kernel_rfl

theorem trK1 (m : Nat) (ft : Nat → ByteArray) (fc : Nat → Int) : execC Tryz.prog g0 100 noLam kR1 (kT0 m) (hpB m ft fc) (leafK (lv3 [0, 10] [] []) 1)
    = Res.out .normal [AV.sl 0 (2 : Nat) (0 : Nat) (0 : Nat) m none, AV.dead, AV.dead, AV.dead, AV.dead, AV.dead, AV.dead, AV.dead, AV.dead, AV.dead, AV.v (.bool (decide ((m : Int) > (50 : Int)))), AV.dead, AV.dead, AV.dead, AV.dead, AV.dead, AV.dead, AV.dead, AV.dead, AV.dead, AV.dead, AV.dead, AV.dead, AV.dead, AV.dead, AV.dead, AV.dead, AV.dead] [AB.row false m 2 (rowE ft fc) 27] := by kernel_rfl

theorem trK4 (m b : Nat) (ft : Nat → ByteArray) (fc : Nat → Int) : execC Tryz.prog g0 100 noLam kR4 (kT3 m b) (hpB m ft fc) (leafK (lv3 [4, 12, 13, 14] [] []) 1)
    = Res.out .normal [AV.dead, AV.dead, AV.dead, AV.dead, AV.v (Value.map (some b)), AV.dead, AV.dead, AV.dead, AV.dead, AV.dead, AV.dead, AV.dead, AV.sl 0 (2 : Nat) (0 : Nat) (0 : Nat) m none, AV.v (.int .i64 (m : Int)), AV.v (.int .i64 0), AV.dead, AV.dead, AV.dead, AV.dead, AV.dead, AV.dead, AV.dead, AV.dead, AV.dead, AV.dead, AV.dead, AV.dead, AV.dead] [AB.row false m 2 (rowE ft fc) 27] := by kernel_rfl

theorem trK5 (m b i : Nat) (ft : Nat → ByteArray) (fc : Nat → Int) : execC Tryz.prog g0 100 noLam kR5 (kT4 m b i) (hpB m ft fc) (leafK (lv3 [4, 12, 13, 14, 15] [] []) 1)
    = Res.out .normal [AV.dead, AV.dead, AV.dead, AV.dead, AV.v (Value.map (some b)), AV.dead, AV.dead, AV.dead, AV.dead, AV.dead, AV.dead, AV.dead, AV.sl 0 (2 : Nat) (0 : Nat) (0 : Nat) m none, AV.v (.int .i64 (m : Int)), AV.v (.int .i64 (↑i : Int)), AV.v (.bool (decide ((↑i : Int) < (m : Int)))), AV.dead, AV.dead, AV.dead, AV.dead, AV.dead, AV.dead, AV.dead, AV.dead, AV.dead, AV.dead, AV.dead, AV.dead] [AB.row false m 2 (rowE ft fc) 27] := by kernel_rfl

theorem trK6 (m b i : Nat) (q : Bool) (ft : Nat → ByteArray) (fc : Nat → Int) : execC Tryz.prog g0 100 noLam kR6 (kT5 m b i q) (hpB m ft fc) (leafK (lv3 [4, 6, 12, 13, 14] [] []) 1)
    = needs [decide ((↑i : Int) < (m : Int)), decide ((0 : Nat) + Int.toNat (↑i : Int) < m)] (Res.out .normal [AV.dead, AV.dead, AV.dead, AV.dead, AV.v (Value.map (some b)), AV.dead, AV.ptr (1 : Nat) (0 : Nat) (0 : Nat) (0 : Nat), AV.dead, AV.dead, AV.dead, AV.dead, AV.dead, AV.sl 0 (2 : Nat) (0 : Nat) (0 : Nat) m none, AV.v (.int .i64 (m : Int)), AV.v (.int .i64 (↑i : Int)), AV.dead, AV.dead, AV.dead, AV.dead, AV.dead, AV.dead, AV.dead, AV.dead, AV.dead, AV.dead, AV.dead, AV.dead, AV.dead] [AB.row false m 2 (rowE ft fc) 27, AB.cells [AV.v (.string (ft ((0 : Nat) + Int.toNat (↑i : Int)))), AV.v (.int .u32 (fc ((0 : Nat) + Int.toNat (↑i : Int))))] (27 : Nat)]) := by kernel_rfl

theorem trK7 (er : ByteArray → Int → Bool) (m b i : Nat) (ft : Nat → ByteArray) (fc : Nat → Int) : execC Tryz.prog (gmBk er) 100 noLam kR7 (kT6 m b i) (hpB1 m ft fc i) (leafK (lv3 [4, 6, 12, 13, 14, 19] [] []) 1)
    = Res.out .normal [AV.dead, AV.dead, AV.dead, AV.dead, AV.v (Value.map (some b)), AV.dead, AV.ptr (1 : Nat) (0 : Nat) (0 : Nat) (0 : Nat), AV.dead, AV.dead, AV.dead, AV.dead, AV.dead, AV.sl 0 (2 : Nat) (0 : Nat) (0 : Nat) m none, AV.v (.int .i64 (m : Int)), AV.v (.int .i64 (↑i : Int)), AV.dead, AV.dead, AV.dead, AV.dead, AV.v (.bool (er (ft i) (fc i))), AV.dead, AV.dead, AV.dead, AV.dead, AV.dead, AV.dead, AV.dead, AV.dead] [AB.row false m 2 (rowE ft fc) 27, AB.cells [AV.v (.string (ft i)), AV.v (.int .u32 (fc i))] 27] := by kernel_rfl

theorem trK9 (m b i : Nat) (q : Bool) (ft : Nat → ByteArray) (fc : Nat → Int) : execC Tryz.prog g0 100 noLam kR9 (kT7 m b i q) (hpB1 m ft fc i) (leafK (lv3 [4, 12, 13, 14] [] []) 1)
    = Res.out .normal [AV.dead, AV.dead, AV.dead, AV.dead, AV.v (Value.map (some b)), AV.dead, AV.dead, AV.dead, AV.dead, AV.dead, AV.dead, AV.dead, AV.sl 0 (2 : Nat) (0 : Nat) (0 : Nat) m none, AV.v (.int .i64 (m : Int)), AV.v (.int .i64 (IntKind.wrap .i64 ((↑i : Int) + (1 : Int)))), AV.dead, AV.dead, AV.dead, AV.dead, AV.dead, AV.dead, AV.dead, AV.dead, AV.dead, AV.dead, AV.dead, AV.dead, AV.dead] [AB.row false m 2 (rowE ft fc) 27] := by kernel_rfl

def kTz (x : AV) : List AV := mkT 0 28 [(7, x)]
theorem trKz (m n : Nat) (ft : Nat → ByteArray) (fc : Nat → Int) (gt : Nat → ByteArray) (gc : Nat → Int) : execC Tryz.prog g0 100 noLam kRz (kTz (.own 1 n)) [.row false m 2 (rowE ft fc) 27, .row true n 2 (rowE gt gc) 27] (finC Tryz.prog fBk fun av H' => .out .ret [av] H')
    = needs [decide ((↑n : Int) ≤ (↑n : Int)), decide ((↑n : Int) ≤ (↑n : Int)), Nat.ble n n] (Res.out .ret [AV.tup [AV.sl 1 (2 : Nat) (0 : Nat) (0 : Nat) (Int.toNat ((↑n : Int) - (0 : Int))) (some (Int.toNat ((↑n : Int) - (0 : Int)))), AV.v (.bool true)]] [AB.row false m 2 (rowE ft fc) 27, AB.row true n 2 (rowE gt gc) 27]) := by kernel_rfl

end Go.Proofs.YtcadinbahmliiaaGreatDoor

/- The program's BookSort: what its single operations do. No conditions. -/
namespace Go.Proofs.YtcadinbahmliiaaGreatDoor
open Go.RowKit
set_option maxRecDepth 100000

theorem op_value {nn : Nat} {P : Program} {ops : Array Oper} {Q : Exit → Act → World → Prop} {i : Nat} {o : Oper} {K : Act → World → Prop} {a : Act} {w w' : World} {v : Value} (ho : ops[i]? = some o) (hgu : o.guard = none) (hr : (execOp a.eval o).run P w = .ok (.value v) w') (hK : K (a.put o.dst v) w') : wpOpIn (wideR none) nn P ops Q i K a w := by
  unfold wpOpIn
  rw [ho]
  simp only
  rw [if_pos (by simp [Region.wanted, hgu])]
  refine ⟨fun _ _ => trivial, ?_⟩
  rw [show (o.semAt (wideR none).round a.eval).run P w = .ok (.value v) w' by rw [show (wideR none).round = none from rfl, Oper.semAt_none]; exact hr]
  exact hK
theorem op_skip {nn : Nat} {P : Program} {ops : Array Oper} {Q : Exit → Act → World → Prop} {i : Nat} {o : Oper} {K : Act → World → Prop} {a : Act} {w w' : World} (ho : ops[i]? = some o) (hgu : o.guard = none) (hr : (execOp a.eval o).run P w = .ok .skip w') (hK : K (a.put o.dst undef) w') : wpOpIn (wideR none) nn P ops Q i K a w := by
  unfold wpOpIn
  rw [ho]
  simp only
  rw [if_pos (by simp [Region.wanted, hgu])]
  refine ⟨fun _ _ => trivial, ?_⟩
  rw [show (o.semAt (wideR none).round a.eval).run P w = .ok .skip w' by rw [show (wideR none).round = none from rfl, Oper.semAt_none]; exact hr]
  exact hK
theorem op_call {nn : Nat} {P : Program} {ops : Array Oper} {Q : Exit → Act → World → Prop} {i : Nat} {o : Oper} {K : Act → World → Prop} {a : Act} {w w' : World} {f : FuncId} {args : Array Value} {R : Ending → World → Prop} (ho : ops[i]? = some o) (hgu : o.guard = none) (hr : (execOp a.eval o).run P w = .ok (.enter f args) w') (h : Calls P f args w' R)
    (hR : ∀ e W, R e W → ∃ b, e = .returned b ∧ K (a.put o.dst b) W) : wpOpIn (wideR none) nn P ops Q i K a w := by
  unfold wpOpIn
  rw [ho]
  simp only
  rw [if_pos (by simp [Region.wanted, hgu])]
  refine ⟨fun _ _ => trivial, ?_⟩
  rw [show (o.semAt (wideR none).round a.eval).run P w = .ok (.enter f args) w' by rw [show (wideR none).round = none from rfl, Oper.semAt_none]; exact hr]
  exact ⟨fun hdep => (by cases hdep), callsIn_wideR (h.mono fun e W he => by
    obtain ⟨b, rfl, hk⟩ := hR e W he
    exact hk)⟩

theorem pieceG {nn : Nat} {Γ : Gam} (hΓ : GamOk Tryz.prog Γ) {c : Code} {M : Nat → Prop} {w0 : World} {ν0 : Nu} (hM : ∀ k, w0.heap.size ≤ k → M k) {T : List AV} {H : List AB} {K : Kont} {Qr : Ex → List AV → List AB → Prop} {X : World} {A : Act} {ν : Nu} (hc : codeDef c = true) (hr : (execC Tryz.prog Γ 100 noLam c T H K).ok Qr) (hS : SR M w0 ν0 T H A X ν) (hd : A.defers = [])
    {Q : Exit → Act → World → Prop} (hQ : ∀ e A' X', postD [] M w0 ν0 K Qr e A' X' → (∀ (k : Nat) (o : Obj), X.heap[k]? = some o → o.isCells = false → X'.heap[k]? = some o) → X.heap.size ≤ X'.heap.size → Q e A' X') : c.wpIn (wideR none) nn Tryz.prog Q A X := by
  refine wpIn_mono (execC_in (nn := nn) hΓ mixed enters none [] 100 c hc (ownM X ν H) X ν (fun k hk => .inl hk) T H K Qr A X ν hr (hS.rebase hM) hd) ?_
  rintro e A' X' ⟨e', T', H', ν', rfl, hk, hS', hd'⟩
  exact hQ _ _ _ ⟨e', T', H', ν', rfl, hk, hS.unbase hM hS', hd'⟩ (fun k o hk ho => (hS'.fr.block k (Array.getElem?_eq_some_iff.1 hk).1 (hS.own_cells hk ho)).trans hk) hS'.fr.size
theorem pieceL {nn : Nat} {Γ : Gam} (hΓ : GamOk Tryz.prog Γ) {c : Code} {M : Nat → Prop} {w0 : World} {ν0 : Nu} {m : Nat} (hM : ∀ k, w0.heap.size ≤ k → M k) (hd0 : ∀ i b, ν0 i = some b → i < m) {T T' : List AV} {H H' : List AB} {lv : Ex → List Nat} {X : World} {A : Act} {ν : Nu} (hc : codeDef c = true) (hS : SR M w0 ν0 T H A X ν) (hd : A.defers = [])
    (hr : (execC Tryz.prog Γ 100 noLam c T H (leafK lv m)).ok fun e T2 H2 => e = .normal ∧ T2 = T' ∧ H2 = H')
    {Q : Exit → Act → World → Prop} (hQ : ∀ A' X' ν', SR M w0 ν0 T' H' A' X' ν' → A'.defers = [] → (∀ (k : Nat) (o : Obj), X.heap[k]? = some o → o.isCells = false → X'.heap[k]? = some o) → X.heap.size ≤ X'.heap.size → Q .normal A' X') : c.wpIn (wideR none) nn Tryz.prog Q A X := by
  refine pieceG hΓ hM hc hr hS hd fun e A' X' hp hk hsz => ?_
  obtain ⟨e', T2, H2, ν', rfl, ⟨rfl, rfl, rfl⟩, hS', hd'⟩ := leaf_post hp hd0
  exact hQ A' X' ν' hS' hd' hk hsz
theorem SR.step {M : Nat → Prop} {w0 : World} {ν0 : Nu} {T : List AV} {H : List AB} {A : Act} {X X' : World} {ν : Nu} {row : Option Nat} (h : SR M w0 ν0 T H A X ν) (hM : ∀ k, w0.heap.size ≤ k → M k) (hg : X.grownBy X' row) (hr : ∀ r, row = some r → w0.heap.size ≤ r ∧ ∃ o : Obj, X.heap[r]? = some o ∧ o.isCells = false) {dst : Option Tmp} {x : Value} (hd : dstOk T dst = true) :
    SR M w0 ν0 (setT T dst (.v x)) H (A.put dst x) X' ν := by
  have h' := h.turn hM hg hr
  exact SR.put h' hd (Le.refl _) (by simp only [VR]) h'.heap h'.fr h'.dom
theorem SR.at {M : Nat → Prop} {w0 : World} {ν0 : Nu} {T : List AV} {H : List AB} {A : Act} {X : World} {ν : Nu} (h : SR M w0 ν0 T H A X ν) {z : Operand} {x : Value} (hz : evA T z = .v x) : A.eval z = x := by
  have := evA_sound (T := T) (a := A) (ν := ν) (z := z) fun t _ => h.tmps t
  rw [hz] at this
  simpa only [VR] using this

noncomputable def kO (O : Array Oper) (k : Nat) : Oper := O.toList.getD k default
theorem k3_0 : kO3[0]? = some (kO kO3 0) := by kernel_rfl
theorem k3_1 : kO3[1]? = some (kO kO3 1) := by kernel_rfl
theorem k3_r : List.range kO3.size = [0, 1] := by kernel_rfl
theorem k3_0o : (kO kO3 0).op = .makeMap 81 none ∧ (kO kO3 0).guard = none ∧ (kO kO3 0).dst = some 11 := ⟨by kernel_rfl, by kernel_rfl, by kernel_rfl⟩
theorem k3_1o : (kO kO3 1).op = .assign (.tmp 11) ∧ (kO kO3 1).guard = none ∧ (kO kO3 1).dst = some 4 := ⟨by kernel_rfl, by kernel_rfl, by kernel_rfl⟩
theorem k8_0 : kO8[0]? = some (kO kO8 0) := by kernel_rfl
theorem k8_1 : kO8[1]? = some (kO kO8 1) := by kernel_rfl
theorem k8_2 : kO8[2]? = some (kO kO8 2) := by kernel_rfl
theorem k8_r : List.range kO8.size = [0, 1, 2] := by kernel_rfl
theorem k8_0o : (kO kO8 0).op = .move (.tmp 4) ∧ (kO kO8 0).guard = none ∧ (kO kO8 0).dst = some 20 := ⟨by kernel_rfl, by kernel_rfl, by kernel_rfl⟩
theorem k8_1o : (kO kO8 1).op = .load 27 (.tmp 6) ∧ (kO kO8 1).guard = none ∧ (kO kO8 1).dst = some 21 := ⟨by kernel_rfl, by kernel_rfl, by kernel_rfl⟩
theorem k8_2o : (kO kO8 2).op = .mapUpdate 81 (.tmp 20) (.tmp 21) (.const (.bool true)) ∧ (kO kO8 2).guard = none ∧ (kO kO8 2).dst = none := ⟨by kernel_rfl, by kernel_rfl, by kernel_rfl⟩
theorem k10_0 : kO10[0]? = some (kO kO10 0) := by kernel_rfl
theorem k10_1 : kO10[1]? = some (kO kO10 1) := by kernel_rfl
theorem k10_2 : kO10[2]? = some (kO kO10 2) := by kernel_rfl
theorem k10_3 : kO10[3]? = some (kO kO10 3) := by kernel_rfl
theorem k10_r : List.range kO10.size = [0, 1, 2, 3] := by kernel_rfl
theorem k10_0o : (kO kO10 0).op = .move (.tmp 4) ∧ (kO kO10 0).guard = none ∧ (kO kO10 0).dst = some 23 := ⟨by kernel_rfl, by kernel_rfl, by kernel_rfl⟩
theorem k10_1o : (kO kO10 1).op = .call ⟨.value (.func 50), #[.tmp 23], #[81]⟩ ∧ (kO kO10 1).guard = none ∧ (kO kO10 1).dst = some 24 := ⟨by kernel_rfl, by kernel_rfl, by kernel_rfl⟩
noncomputable def kts (o : Oper) : Array TypeId := match o.op with | .call c => c.argTypes | _ => #[]
theorem k10_2o : ((kO kO10 2).op = .call ⟨.value (.func 49), #[.tmp 24, .func 51], kts (kO kO10 2)⟩) ∧ (kO kO10 2).guard = none ∧ (kO kO10 2).dst = some 25 := ⟨by kernel_rfl, by kernel_rfl, by kernel_rfl⟩
theorem k10_3o : (kO kO10 3).op = .assign (.tmp 25) ∧ (kO kO10 3).guard = none ∧ (kO kO10 3).dst = some 7 := ⟨by kernel_rfl, by kernel_rfl, by kernel_rfl⟩
theorem run_mk {P : Program} {o : Oper} {t : TypeId} {a : Act} {w : World} (h : o.op = .makeMap t none) : (execOp a.eval o).run P w = .ok (.value (.map (some w.heap.size))) (w.alloc (.map #[] 0)) := by
  simp [execOp, h, run_makeMap, Result.andThen]
theorem run_upd {P : Program} {o : Oper} {t : TypeId} {m x v : Operand} {a : Act} {w w' : World} {mv key val : Value} (h : o.op = .mapUpdate t m x v) (hm : a.eval m = mv) (hx : a.eval x = key) (hv : a.eval v = val) (hr : (Instr.mapUpdate t mv key val).run P w = .ok () w') : (execOp a.eval o).run P w = .ok .skip w' := by
  simp [execOp, h, hm, hx, hv, hr, Result.andThen]
theorem run_cl1 {P : Program} {o : Oper} {f : FuncId} {x : Tmp} {ts : Array TypeId} {a : Act} {w : World} {v : Value} (h : o.op = .call ⟨.value (.func f), #[.tmp x], ts⟩) (hx : a.eval (.tmp x) = v) (eg : ∀ args w, (callFunc f args).run P w = .ok (.enter f args) w) : (execOp a.eval o).run P w = .ok (.enter f #[v]) w := by
  have e : a.tmps[x]?.getD undef = v := by rw [← hx]; simp [Act.eval]
  simp [execOp, h, resolve, Deferred.ofValue, invoke, Act.eval, go_sem, eg, e]
theorem run_cl2 {P : Program} {o : Oper} {f g : FuncId} {x : Tmp} {ts : Array TypeId} {a : Act} {w : World} {v : Value} (h : o.op = .call ⟨.value (.func f), #[.tmp x, .func g], ts⟩) (hx : a.eval (.tmp x) = v) (eg : ∀ args w, (callFunc f args).run P w = .ok (.enter f args) w) : (execOp a.eval o).run P w = .ok (.enter f #[v, .func (.func g) #[] #[]]) w := by
  have e : a.tmps[x]?.getD undef = v := by rw [← hx]; simp [Act.eval]
  simp [execOp, h, resolve, Deferred.ofValue, invoke, Act.eval, go_sem, eg, e]

end Go.Proofs.YtcadinbahmliiaaGreatDoor

/- The abstract machine, 29: words for more than one loop. No conditions. -/
namespace Go.Proofs.YtcadinbahmliiaaGreatDoor
open Go.RowKit

end Go.Proofs.YtcadinbahmliiaaGreatDoor

/- The order of a book: cmp.Compare, cmp.Or and the closure that compares: trees. No conditions. -/
namespace Go.Proofs.YtcadinbahmliiaaGreatDoor
open Go.RowKit
set_option maxRecDepth 100000

end Go.Proofs.YtcadinbahmliiaaGreatDoor

/- The order of a book: what the comparing closure hands back, and how far the world has come. No conditions. -/
namespace Go.Proofs.YtcadinbahmliiaaGreatDoor
open Go.RowKit Go.Sort
set_option maxRecDepth 100000

def cuV (x y : Int) : Int := bif decide (x < y) then -1 else bif decide (x > y) then 1 else 0
def csV (s t : ByteArray) : Int := bif lessB s t then -1 else bif !(lessB s t || eqB s t) then 1 else 0
def orV (a b : Int) : Int := bif a != 0 then a else b
theorem cuV_lt {x y : Int} (h : x < y) : cuV x y = -1 := by simp [cuV, h]
theorem cuV_gt {x y : Int} (h : y < x) : cuV x y = 1 := by
  have h1 : ¬ x < y := by omega
  simp [cuV, h, h1]
theorem cuV_eq {x y : Int} (h : y ≤ x) (h2 : x ≤ y) : cuV x y = 0 := by
  have h1 : ¬ x < y := by omega
  have h3 : ¬ y < x := by omega
  simp [cuV, h1, h3]
set_option maxHeartbeats 2000000 in
theorem calls_nanU (x : Int) (w : World) : Calls Tryz.prog 91 #[.int .u32 x] w fun e w' => e = .returned (.bool false) ∧ w' = w := by
  have tB : Tryz.prog.underlying 4 = some .bool := by kernel_rfl
  have tU : Tryz.prog.underlying 22 = some (.int .u32) := by kernel_rfl
  have uB := run_underlying tB; have uU := run_underlying tU
  have mixed := mixed
  go_enter Tryz.func91, Tryz.ntmps91
  go_wp2
  go_ret
  simp

set_option maxHeartbeats 2000000 in
theorem calls_nanS (x : ByteArray) (w : World) : Calls Tryz.prog 92 #[.string x] w fun e w' => e = .returned (.bool false) ∧ w' = w := by
  have tB : Tryz.prog.underlying 4 = some .bool := by kernel_rfl
  have tS : Tryz.prog.underlying 9 = some .string := by kernel_rfl
  have uB := run_underlying tB; have uS := run_underlying tS
  have mixed := mixed
  go_enter Tryz.func92, Tryz.ntmps92
  go_wp2
  go_ret
  simp
set_option maxHeartbeats 4000000 in
theorem calls_cu (x y : Int) (w : World) : Calls Tryz.prog 53 #[.int .u32 x, .int .u32 y] w fun e w' => e = .returned (.int .i64 (cuV x y)) ∧ w' = w := by
  have tB : Tryz.prog.underlying 4 = some .bool := by kernel_rfl
  have tU : Tryz.prog.underlying 22 = some (.int .u32) := by kernel_rfl
  have tI : Tryz.prog.underlying 3 = some (.int .i64) := by kernel_rfl
  have uB := run_underlying tB; have uU := run_underlying tU; have uI := run_underlying tI
  have mixed := mixed
  have hN := calls_nanU
  go_enter Tryz.func53, Tryz.ntmps53
  go_wp2_with (go_at_call 91; refine (hN _ _).mono ?_; rintro e w' ⟨rfl, rfl⟩)
  · rename_i h
    rw [cuV_lt h]
    go_ret
    exact ⟨rfl, rfl⟩
  · rename_i h
    rw [cuV_gt h]
    go_ret
    exact ⟨rfl, rfl⟩
  · rename_i h1 h2
    rw [cuV_eq h1 h2]
    go_ret
    exact ⟨rfl, rfl⟩

theorem csV_lt {x y : ByteArray} (h : Op.bytesLess x.toList y.toList = true) : csV x y = -1 := by
  rw [csV, show lessB x y = true from h, cond_true]
theorem csV_gt {x y : ByteArray} (h : lessB x y = false) (h2 : eqB x y = false) : csV x y = 1 := by
  rw [csV, h, h2]
  rfl
theorem csV_eq {x y : ByteArray} (h : Op.bytesLess x.toList y.toList = false) (h2 : (!eqB x y) = false) : csV x y = 0 := by
  rw [Bool.not_eq_false'] at h2
  rw [csV, show lessB x y = false from h, h2]
  rfl
set_option maxHeartbeats 4000000 in
theorem calls_cs (x y : ByteArray) (w : World) : Calls Tryz.prog 54 #[.string x, .string y] w fun e w' => e = .returned (.int .i64 (csV x y)) ∧ w' = w := by
  have tB : Tryz.prog.underlying 4 = some .bool := by kernel_rfl
  have tS : Tryz.prog.underlying 9 = some .string := by kernel_rfl
  have tI : Tryz.prog.underlying 3 = some (.int .i64) := by kernel_rfl
  have uB := run_underlying tB; have uS := run_underlying tS; have uI := run_underlying tI
  have mixed := mixed
  have hN := calls_nanS
  have hgt : ∀ w, Sem.run Tryz.prog (binOp .gtr 9 (.string x) (.string y)) w = .ok (.bool (!(lessB x y || eqB x y))) w := fun w => by simp [eqGuard, binOp, Op.stringOp, beq_dec, eqB, lessB]
  go_enter Tryz.func54, Tryz.ntmps54
  go_wp2_with (go_at_call 92; refine (hN _ _).mono ?_; rintro e w' ⟨rfl, rfl⟩)
  · rename_i h
    rw [csV_lt h]
    go_ret
    exact ⟨rfl, rfl⟩
  · rename_i h
    rw [csV_gt (by simpa using h.1) (by simpa using h.2)]
    go_ret
    exact ⟨rfl, rfl⟩
  · rename_i h1 h2
    rw [csV_eq h1 (h2.resolve_left fun h => by rw [Bool.not_eq_false'] at h; rw [show lessB x y = false from h1] at h; cases h)]
    go_ret
    exact ⟨rfl, rfl⟩
set_option maxHeartbeats 4000000 in
theorem calls_or (a b : Int) (blk : Nat) (w : World) (h0 : w.cell? ⟨blk, 0, none⟩ = some (.int .i64 a)) (h1 : w.cell? ⟨blk, 1, none⟩ = some (.int .i64 b)) : Calls Tryz.prog 52 #[.slice (some ⟨blk, 0, none⟩) 2 2] w fun e w' => e = .returned (.int .i64 (orV a b)) ∧ w' = w := by
  have tB : Tryz.prog.underlying 4 = some .bool := by kernel_rfl
  have tI : Tryz.prog.underlying 3 = some (.int .i64) := by kernel_rfl
  have tL : Tryz.prog.underlying 133 = some (.slice 3) := by kernel_rfl
  have uB := run_underlying tB; have uI := run_underlying tI; have uL := run_underlying tL
  have mixed := mixed
  have aI := Tryz.isAgg3; have zI := Tryz.sizeOf3; have vI := Tryz.zeroValue3
  go_enter Tryz.func52, Tryz.ntmps52
  go_wp2
  refine wp_loop_rounds 3 ?_
  rw [rounds_succ]
  go_wp2
  · rename_i h
    rw [show orV a b = a by unfold orV; rw [h]; rfl]
    go_ret
    exact ⟨rfl, rfl⟩
  · rename_i h
    have eb : orV a b = b := by unfold orV; rw [h]; rfl
    rw [rounds_succ]
    go_wp2
    · go_ret
      rw [eb]
      exact ⟨rfl, rfl⟩
    · rename_i hb
      have hb0 : b = 0 := by simpa using hb
      subst hb0
      rw [rounds_succ]
      go_wp2
      go_ret
      rw [eb]
      exact ⟨rfl, rfl⟩

theorem less_or {s t : ByteArray} (h : lessB s t = false) : lessB t s = !eqB s t := by
  cases e : eqB s t with
  | true =>
    have := eqB_eq e
    subst this
    exact bl_irr _
  | false =>
    cases h2 : lessB t s with
    | true => rfl
    | false =>
      have h3 := bl_tot _ _ h h2
      rw [eqB, decide_eq_true h3] at e
      cases e
theorem cell_new2 (w : World) (a b : Value) (t : TypeId) : (w.alloc (.cells #[a, b] t)).cell? ⟨w.heap.size, 0, none⟩ = some a ∧ (w.alloc (.cells #[a, b] t)).cell? ⟨w.heap.size, 1, none⟩ = some b := by
  have h := World.alloc_heap_new w (.cells #[a, b] t)
  constructor
  · simp only [World.cell?]
    rw [h]
    rfl
  · simp only [World.cell?]
    rw [h]
    rfl
theorem or_cf (x y : ByteArray × Int) : orV (cuV x.2 y.2) (csV x.1 y.1) = cfE x y := by
  obtain ⟨s, c⟩ := x
  obtain ⟨t, d⟩ := y
  have key : ∀ s c t d, ltP (s, c) (t, d) = (bif c != d then decide (c < d) else lessB s t) := fun s c t d => rfl
  unfold cfE
  rw [key, key]
  simp only
  unfold orV cuV csV
  by_cases h1 : c < d
  · have h2 : (c != d) = true := bne_iff_ne.2 (by omega)
    simp [h1, h2]
  · by_cases h3 : d < c
    · have h2 : (c != d) = true := bne_iff_ne.2 (by omega)
      have h4 : (d != c) = true := bne_iff_ne.2 (by omega)
      simp [h1, h2, h3, h4]
    · have e : c = d := by omega
      subst e
      simp only [bne_self_eq_false, cond_false]
      cases h4 : lessB s t with
      | true => simp
      | false =>
        rw [less_or h4]
        cases eqB s t <;> simp
set_option maxHeartbeats 8000000 in
theorem calls_cf (x y : ByteArray × Int) (W : World) : Calls Tryz.prog 51 #[.agg #[.string x.1, .int .u32 x.2], .agg #[.string y.1, .int .u32 y.2]] W fun e w' => e = .returned (.int .i64 (cfE x y)) ∧ ∃ q os', w' = grow (W.drewN q) os' := by
  have tB : Tryz.prog.underlying 4 = some .bool := by kernel_rfl
  have tS : Tryz.prog.underlying 9 = some .string := by kernel_rfl
  have tU : Tryz.prog.underlying 22 = some (.int .u32) := by kernel_rfl
  have tI : Tryz.prog.underlying 3 = some (.int .i64) := by kernel_rfl
  have tL : Tryz.prog.underlying 133 = some (.slice 3) := by kernel_rfl
  have uB := run_underlying tB; have uS := run_underlying tS; have uU := run_underlying tU; have uI := run_underlying tI; have uL := run_underlying tL
  have uE := run_underlying Tryz.underlying27
  have aE := Tryz.isAgg27; have zE := Tryz.sizeOf27; have vE := Tryz.zeroValue27
  have aI := Tryz.isAgg3; have zI := Tryz.sizeOf3; have vI := Tryz.zeroValue3
  have aS := Tryz.isAgg9; have zS := Tryz.sizeOf9; have aU := Tryz.isAgg22; have zU := Tryz.sizeOf22
  have mixed := mixed
  obtain ⟨s, c⟩ := x
  obtain ⟨t, d⟩ := y
  have hu := calls_cu; have hs := calls_cs; have ho := calls_or
  rw [← or_cf]
  simp only []
  generalize hA : cuV c d = A
  generalize hB : csV s t = B
  have hu1 : ∀ w, Calls Tryz.prog 53 #[.int .u32 c, .int .u32 d] w fun e w' => e = .returned (.int .i64 A) ∧ w' = w := fun w => hA ▸ hu c d w
  have hs1 : ∀ w, Calls Tryz.prog 54 #[.string s, .string t] w fun e w' => e = .returned (.int .i64 B) ∧ w' = w := fun w => hB ▸ hs s t w
  clear hu hs hA hB
  go_enter Tryz.func51, Tryz.ntmps51
  go_wp2_with fail
  refine wp_region_same [] 10 mixed (fun _ _ _ _ _ h => panic_put h) (by kernel_rfl) rfl (fun hne => ?_)
  simp only [headFrom, List.elem_nil, Bool.false_eq_true, if_false, List.drop_succ_cons, List.drop_zero, List.filterMap_nil, List.foldl_nil]
  iterate 10
    apply sure_step hne rfl
    · intro w1 hb K hK
      subst hb
      go_wp2_with (first | (go_at_call 53; refine (hu1 _).mono ?_; rintro e w' ⟨rfl, rfl⟩) | (go_at_call 54; refine (hs1 _).mono ?_; rintro e w' ⟨rfl, rfl⟩))
      try rfl
    · rfl
  refine sure_nil ?_
  go_wp2_with (go_at_call 52; refine (ho A B _ _ (by simpa using (cell_new2 ((W.alloc (.cells #[.string s, .int .u32 c] 27)).alloc (.cells #[.string t, .int .u32 d] 27)) _ _ _).1) (by simpa using (cell_new2 ((W.alloc (.cells #[.string s, .int .u32 c] 27)).alloc (.cells #[.string t, .int .u32 d] 27)) _ _ _).2)).mono ?_; rintro e w' ⟨rfl, rfl⟩)
  go_ret
  exact ⟨rfl, 1, #[_, _, _], by rw [alloc_eq_grow, alloc_eq_grow, alloc_eq_grow, grow_grow, grow_grow]; rfl⟩

end Go.Proofs.YtcadinbahmliiaaGreatDoor

/- The program's BookSort: the map is filled. Conditions: entries, at most fifty. -/
namespace Go.Proofs.YtcadinbahmliiaaGreatDoor
open Go.RowKit
set_option maxRecDepth 100000

theorem wf_wrap32 (n : Int) : (Lit.int .u32 (IntKind.wrap IntKind.u32 n)).wf = true := by
  have h1 : IntKind.u32.min = 0 := rfl
  have h2 : IntKind.u32.max = 4294967295 := rfl
  simp only [Lit.wf, h1, h2, IntKind.wrap, IntKind.bits, IntKind.signed, Bool.and_eq_true, decide_eq_true_eq]
  simp
  omega
theorem ckV_wf (L : List Wh) : (Lit.int .u32 (ckV L)).wf = true := by
  unfold ckV
  cases ckY L with
  | false => rfl
  | true =>
    rw [cond_true, ckH, hsh]
    exact wf_wrap32 _
theorem right_key {s : ByteArray} {c : Int} (h : erB s c = true) : keyOf Tryz.prog 27 (encE (s, c)) = some (litE (s, c)) := by
  have h0 := h
  rw [erB, Bool.and_eq_true, Bool.and_eq_true] at h0
  obtain ⟨h1, h2, h3⟩ := h0
  obtain ⟨_, _, hs⟩ := (re_iff s (tRI s)).1 ⟨h1, rfl⟩
  refine keyOf_E (x := (s, c)) ?_ ?_
  · show s.size ≤ maxLen
    unfold maxLen
    omega
  · rw [show c = ckV (tRI s) from (eq_of_beq h3).symm]
    exact ckV_wf _
theorem bk_no {er : ByteArray → Int → Bool} {ft : Nat → ByteArray} {fc : Nat → Int} {i : Nat} (h : er (ft i) (fc i) = false) : bkL er ft fc (i + 1) = bkL er ft fc i := by rw [bkL, h, cond_false]
theorem bk_yes {er : ByteArray → Int → Bool} {ft : Nat → ByteArray} {fc : Nat → Int} {i : Nat} (h : er (ft i) (fc i) = true) (z : ByteArray × Int) : z ∈ bkL er ft fc (i + 1) ↔ z = (ft i, fc i) ∨ z ∈ bkL er ft fc i := by
  rw [mem_bkL, mem_bkL]
  constructor
  · rintro ⟨q, h1, h2, h3⟩
    by_cases e : q = i
    · subst e; exact .inl h3
    · exact .inr ⟨q, by omega, h2, h3⟩
  · rintro (h3 | ⟨q, h1, h2, h3⟩)
    · exact ⟨i, by omega, h, h3⟩
    · exact ⟨q, by omega, h2, h3⟩
abbrev OwnM (X : World) (b n : Nat) (D : DataW Unit) : Prop := X.ownsMap Tryz.prog 27 (plainElem Tryz.prog 4) b n D
theorem own_keep {X X' : World} {b n : Nat} {D : DataW Unit} (h : OwnM X b n D) (hk : ∀ (k : Nat) (o : Obj), X.heap[k]? = some o → o.isCells = false → X'.heap[k]? = some o) : OwnM X' b n D := by
  obtain ⟨es, clock, hb, F, hs, hD⟩ := h
  exact ⟨es, clock, hk b _ hb rfl, F, hs, hD⟩
theorem opL {nn : Nat} {Γ : Gam} (hΓ : GamOk Tryz.prog Γ) {M : Nat → Prop} {w0 : World} {ν0 : Nu} (hM : ∀ k, w0.heap.size ≤ k → M k) {all : Array Oper} {Q : Exit → Act → World → Prop} {k : Nat} {o : Oper} (hk : all[k]? = some o) (hg : o.guard = none) (hd : ∀ c, o.op ≠ .defer c) {T T' : List AV} {H : List AB} {X : World} {A : Act} {ν : Nu} {v : AV} {ob : List Bool}
    (hδ : opA Tryz.prog Γ o T H H.length = some { val := v, obl := ob, rd := (opA Tryz.prog Γ o T H H.length).elim [] Delta.rd }) (ho : obls ob = true) (h1 : dstOk T o.dst = true) (hT : setT T o.dst v = T') (hS : SR M w0 ν0 T H A X ν) {K : Act → World → Prop}
    (hK : ∀ A' X' ν', SR M w0 ν0 T' H A' X' ν' → A'.defers = A.defers → (∀ (k : Nat) (o : Obj), X.heap[k]? = some o → o.isCells = false → X'.heap[k]? = some o) → K A' X') : wpOpIn (wideR none) nn Tryz.prog all Q k K A X := by
  refine mach1 hΓ hk hg hd (M := ownM X ν H) (fun k hk => .inl hk) hδ ho (by rw [h1]; rfl) (hS.rebase hM) fun a' w' ν' hS' hdf => ?_
  have e : appH H { val := v, obl := ob, rd := (opA Tryz.prog Γ o T H H.length).elim [] Delta.rd } = H := by simp [appH, putA]
  rw [e] at hS'
  subst hT
  exact hK a' w' ν' (hS.unbase hM hS') hdf fun k o hk ho => (hS'.fr.block k (Array.getElem?_eq_some_iff.1 hk).1 (hS.own_cells hk ho)).trans hk
theorem gmBk_ok : GamOk Tryz.prog (gmBk erB) := ext_ok g0_ok ok_erI

theorem walk1 {nn : Nat} {m : Nat} {ft : Nat → ByteArray} {fc : Nat → Int} (hm : m ≤ 50) {M : Nat → Prop} {w0 : World} {ν0 : Nu} (hM : ∀ k, w0.heap.size ≤ k → M k) (hd0 : ∀ i b, ν0 i = some b → i < 1) {A : Act} {X : World} {ν : Nu} {b : Nat} (hS : SR M w0 ν0 (kT3 m b) (hpB m ft fc) A X ν) (hd : A.defers = []) (hb : w0.heap.size ≤ b) (hown : OwnM X b 0 (.map []))
    {Q : Exit → Act → World → Prop} (hQ : ∀ A' X' ν' D, SR M w0 ν0 (kT5 m b m (decide ((m : Int) < m))) (hpB m ft fc) A' X' ν' → A'.defers = [] → OwnM X' b m D → (∀ z, hasE D z ↔ z ∈ bkL erB ft fc m) → Q .normal A' X') :
    (Code.seq kR4 (.block 0 (.loop kL))).wpIn (wideR none) nn Tryz.prog Q A X := by
  have tM : Tryz.prog.underlying 81 = some (.map 27 4) := by kernel_rfl
  have tB : Tryz.prog.underlying 4 = some .bool := by kernel_rfl
  refine wpIn_seq (pieceL g0_ok hM hd0 (T' := kT4 m b 0) (H' := hpB m ft fc) (lv := lv3 [4, 12, 13, 14] [] []) (by kernel_rfl) hS hd (by rw [trK4]; exact ⟨rfl, rfl, rfl⟩) fun A1 X1 ν1 hS1 hd1 hk1 _ => ?_)
  show (Code.block 0 (.loop kL)).wpIn (wideR none) nn Tryz.prog _ A1 X1
  refine wpIn_block (wpIn_loop (fun A X => ∃ i ν D, i ≤ m ∧ A.defers = [] ∧ SR M w0 ν0 (kT4 m b i) (hpB m ft fc) A X ν ∧ OwnM X b i D ∧ ∀ z, hasE D z ↔ z ∈ bkL erB ft fc i) (fun A _ => m - (intOf (A.tmps.getD 14 undef)).toNat) ⟨0, ν1, .map [], Nat.zero_le _, hd1, hS1, own_keep hown hk1, fun z => ⟨fun h => (hasE_nil z h).elim, fun h => by simp [bkL] at h⟩⟩ ?_)
  clear hS hd hown hS1 hd1 hk1
  have mu : ∀ {i : Nat} {A : Act} {X : World} {ν : Nu}, SR M w0 ν0 (kT4 m b i) (hpB m ft fc) A X ν → (intOf (A.tmps.getD 14 undef)).toNat = i := by
    intro i A X ν h
    have := h.tmps 14
    rw [show (kT4 m b i).getD 14 .dead = .v (i64 i) from by kernel_rfl] at this
    simp only [VR] at this
    rw [this]
    simp [intOf]
  rintro A X ⟨i, ν, D, hi, hd, hS, hown, hD⟩
  have hmu0 := mu hS
  rw [loopBk]
  refine wpIn_seq (pieceL g0_ok hM hd0 (T' := kT5 m b i (decide ((i : Int) < m))) (H' := hpB m ft fc) (lv := lv3 [4, 12, 13, 14, 15] [] []) (by kernel_rfl) hS hd (by rw [trK5]; exact ⟨rfl, rfl, rfl⟩) fun A1 X1 ν1 hS1 hd1 hk1 _ => ?_)
  have hown1 := own_keep hown hk1
  show (Code.seq (.cond (.tmp 15) .skip (.exit 0)) _).wpIn (wideR none) nn Tryz.prog _ A1 X1
  refine wpIn_seq (wpIn_cond (hS1.at (z := .tmp 15) (x := .bool (decide ((i : Int) < m))) rfl) ?_)
  rcases (Nat.lt_or_ge i m).symm with hge | hlt
  · rw [if_neg (by simp; omega)]
    refine wpIn_exit ?_
    have e : i = m := by omega
    subst e
    simp only [Exit.then, Exit.inBlock, if_true]
    exact hQ A1 X1 ν1 D hS1 hd1 hown1 hD
  · rw [if_pos (by simp; omega)]
    refine wpIn_skip ?_
    show (Code.seq (.block 1 _) _).wpIn (wideR none) nn Tryz.prog _ A1 X1
    refine wpIn_seq (wpIn_block (wpIn_seq (pieceL g0_ok hM hd0 (T' := kT6 m b i) (H' := hpB1 m ft fc i) (lv := lv3 [4, 6, 12, 13, 14] [] []) (by kernel_rfl) hS1 hd1 ?_ fun A2 X2 ν2 hS2 hd2 hk2 _ => ?_)))
    · rw [trK6]
      simp only [Int.toNat_natCast, Nat.zero_add]
      exact needs_mk (by simp only [ob_cons, ob_nil, and_true, decide_eq_true_eq]; omega) ⟨rfl, rfl, rfl⟩
    have hown2 := own_keep hown1 hk2
    show (Code.seq kR7 _).wpIn (wideR none) nn Tryz.prog _ A2 X2
    refine wpIn_seq (pieceL gmBk_ok hM hd0 (T' := kT7 m b i (erB (ft i) (fc i))) (H' := hpB1 m ft fc i) (lv := lv3 [4, 6, 12, 13, 14, 19] [] []) (by kernel_rfl) hS2 hd2 (by rw [trK7]; exact ⟨rfl, rfl, rfl⟩) fun A3 X3 ν3 hS3 hd3 hk3 _ => ?_)
    have hown3 := own_keep hown2 hk3
    have fin : ∀ (A4 : Act) (X4 : World) (ν4 : Nu) (D4 : DataW Unit) (q : Bool), SR M w0 ν0 (kT7 m b i q) (hpB1 m ft fc i) A4 X4 ν4 → A4.defers = [] → OwnM X4 b (i + 1) D4 → ∀ {Q' : Exit → Act → World → Prop}, (∀ A5 X5 ν5, SR M w0 ν0 (kT4 m b (i + 1)) (hpB m ft fc) A5 X5 ν5 → A5.defers = [] → OwnM X5 b (i + 1) D4 → Q' .normal A5 X5) → kR9.wpIn (wideR none) nn Tryz.prog Q' A4 X4 := by
      intro A4 X4 ν4 D4 q hS4 hd4 hown4 Q' hQ'
      refine pieceL g0_ok hM hd0 (T' := kT4 m b (i + 1)) (H' := hpB m ft fc) (lv := lv3 [4, 12, 13, 14] [] []) (by kernel_rfl) hS4 hd4 ?_ fun A5 X5 ν5 hS5 hd5 hk5 _ => hQ' A5 X5 ν5 hS5 hd5 (own_keep hown4 hk5)
      rw [trK9, wr_in (x := (i : Int) + 1) (by omega)]
      exact ⟨rfl, rfl, rfl⟩
    show (Code.cond (.tmp 19) (.region 8 kO8 false) .skip).wpIn (wideR none) nn Tryz.prog _ A3 X3
    refine wpIn_cond (hS3.at (z := .tmp 19) (x := .bool (erB (ft i) (fc i))) rfl) ?_
    cases hq : erB (ft i) (fc i) with
    | false =>
      rw [if_neg (by simp)]
      refine wpIn_skip ?_
      show kR9.wpIn (wideR none) nn Tryz.prog _ A3 X3
      refine fin A3 X3 ν3 D _ hS3 hd3 (hown3.mono (by omega)) fun A5 X5 ν5 hS5 hd5 hown5 => ⟨⟨i + 1, ν5, D, hlt, hd5, hS5, hown5, fun z => by rw [bk_no hq]; exact hD z⟩, ?_⟩
      rw [mu hS5, hmu0]
      omega
    | true =>
      rw [hq] at hS3
      rw [if_pos rfl]
      refine wpIn_region ?_
      rw [k8_r, wpOpsIn_cons]
      refine opL g0_ok hM k8_0 k8_0o.2.1 (by rw [k8_0o.1]; simp) (v := .v (.map (some b))) (ob := []) (T' := (kT7 m b i true).set 20 (.v (.map (some b)))) (by kernel_rfl) rfl (by kernel_rfl) (by kernel_rfl) hS3 fun A4 X4 ν4 hS4 hd4 hk4 => ?_
      rw [wpOpsIn_cons]
      refine opL g0_ok hM k8_1 k8_1o.2.1 (by rw [k8_1o.1]; simp) (v := .agg [.v (.string (ft i)), .v (.int .u32 (fc i))]) (ob := []) (T' := ((kT7 m b i true).set 20 (.v (.map (some b)))).set 21 (.agg [.v (.string (ft i)), .v (.int .u32 (fc i))])) (by kernel_rfl) rfl (by kernel_rfl) (by kernel_rfl) hS4 fun A5 X5 ν5 hS5 hd5 hk5 => ?_
      rw [wpOpsIn_cons]
      have hown5 := own_keep (own_keep hown3 hk4) hk5
      have hx : A5.eval (.tmp 21) = encE (ft i, fc i) := by
        have := evA_sound (T := ((kT7 m b i true).set 20 (.v (.map (some b)))).set 21 (.agg [.v (.string (ft i)), .v (.int .u32 (fc i))])) (a := A5) (ν := ν5) (z := .tmp 21) fun t _ => hS5.tmps t
        change VR ν5 (.agg [.v (.string (ft i)), .v (.int .u32 (fc i))]) _ at this
        simp only [VR] at this
        obtain ⟨l, e, hl⟩ := this
        match l, hl with
        | [y1, y2], hl =>
          simp only [VRs, VR, and_true] at hl
          obtain ⟨rfl, rfl⟩ := hl
          exact e
      obtain ⟨es, hes, _⟩ := hown.entries keyed_E
      obtain ⟨X6, hrun, hown6, hg6⟩ := hown5.update keyed_E tM (by unfold maxLen; omega) (right_key hq) (plainElem_bool tB true)
      refine op_skip k8_2 k8_2o.2.1 (run_upd k8_2o.1 (hS5.at (z := .tmp 20) rfl) hx rfl hrun) ?_
      rw [k8_2o.2.2]
      have hS6 : SR M w0 ν0 (kT7 m b i true) (hpB1 m ft fc i) A5 X6 ν5 := by
        refine (hS5.turn hM hg6 fun r e => ?_).less rfl (mask_less (live := [4, 6, 12, 13, 14, 19]) (by kernel_rfl)) rfl fun _ => .inl rfl
        cases e
        obtain ⟨es', clock, ho, _⟩ := hown5
        exact ⟨hb, _, ho, rfl⟩
      show kR9.wpIn (wideR none) nn Tryz.prog _ A5 X6
      refine fin A5 X6 ν5 _ true hS6 (hd5.trans (hd4.trans hd3)) hown6 fun A7 X7 ν7 hS7 hd7 hown7 => ⟨⟨i + 1, ν7, _, hlt, hd7, hS7, hown7, fun z => by rw [hasE_put hes (right_key hq) z, bk_yes hq]; exact or_congr Iff.rfl (hD z)⟩, ?_⟩
      rw [mu hS7, hmu0]
      omega

end Go.Proofs.YtcadinbahmliiaaGreatDoor

/- slices.SortedFunc over the keys of a map of entries; slices.Clip of none. Conditions: the map stands. -/
namespace Go.Proofs.YtcadinbahmliiaaGreatDoor
open Go.RowKit Go.Sort
set_option maxRecDepth 100000

set_option maxHeartbeats 2000000 in
theorem calls_collect {bm b n : Nat} {D0 : DataW Unit} (hN : Maps.size D0 ≤ 549755813888) (w : World) (hI : MapAt bm b n D0 (fun k => w.heap.size ≤ k) w) (htab : TabOk (fun k => w.heap.size ≤ k) w) :
    Calls Tryz.prog 88 #[.func (.func 90) #[] #[.pointer (some ⟨bm, 0, none⟩)]] w fun e w' => ∃ v ss, e = .returned v ∧ KeysE D0 ss ∧ OwnE w.heap.size v ss w' ∧ Fr (fun k => w.heap.size ≤ k) w w' := by
  have hcon := calls_aq hN w hI htab
  clear hI htab
  have mixed := mixed
  go_enter Tryz.func88, Tryz.ntmps88
  go_wp2_with (go_at_call 133; refine hcon.mono ?_; rintro e w' ⟨v, ss, rfl, h1, h2, h3⟩)
  go_ret
  exact ⟨v, ss, rfl, h1, h2, h3⟩
set_option maxHeartbeats 2000000 in
theorem calls_clip0 (w : World) : Calls Tryz.prog 55 #[.slice none 0 0] w fun e w' => e = .returned (.slice none 0 0) ∧ w' = w := by
  have tL : Tryz.prog.underlying 41 = some (.slice 27) := by kernel_rfl
  have tI : Tryz.prog.underlying 3 = some (.int .i64) := by kernel_rfl
  have uL := run_underlying tL; have uI := run_underlying tI
  have aE := Tryz.isAgg27; have zE := Tryz.sizeOf27
  have mixed := mixed
  go_enter Tryz.func55, Tryz.ntmps55
  go_wp2
  go_ret
  exact ⟨rfl, rfl⟩

end Go.Proofs.YtcadinbahmliiaaGreatDoor

/- slices.SortedFunc over the keys of a map of entries: the book's list. Conditions: the map stands. -/
namespace Go.Proofs.YtcadinbahmliiaaGreatDoor
open Go.RowKit Go.Sort
set_option maxRecDepth 100000

theorem sort_size (W : World) (blk n : Nat) (d : Array (ByteArray × Int)) (os : Array Obj) : W.heap.size ≤ (sortWorldK encL 2 W blk 0 n d os).heap.size := by
  unfold sortWorldK putRowK
  simp [grow]
theorem sort_at {W : World} {blk n : Nat} {l : List Value} {t : TypeId} {d : Array (ByteArray × Int)} {os : Array Obj} (hb : W.heap[blk]? = some (.cells (List.toArray l) t (0, 0))) :
    (sortWorldK encL 2 W blk 0 n d os).heap[blk]? = some (.cells (List.toArray (putCells id 0 (flatK encL 2 d) (List.toArray l)).toList) t (0, 0)) := by
  have hlt := (Array.getElem?_eq_some_iff.1 hb).1
  unfold sortWorldK putRowK
  rw [heap_grow_old _ _ (by simpa using hlt)]
  show ((Go.Sort.ahead W n).heap.modify blk _)[blk]? = _
  rw [Array.getElem?_modify, if_pos rfl, show (Go.Sort.ahead W n).heap[blk]? = _ from hb]
  rfl
theorem sort_other {W : World} {blk n k : Nat} {d : Array (ByteArray × Int)} {os : Array Obj} (hk : k < W.heap.size) (hne : k ≠ blk) : (sortWorldK encL 2 W blk 0 n d os).heap[k]? = W.heap[k]? := by
  unfold sortWorldK putRowK
  rw [heap_grow_old _ _ (by simpa using hk)]
  show ((Go.Sort.ahead W n).heap.modify blk _)[k]? = _
  rw [Array.getElem?_modify, if_neg (Ne.symm hne)]
  rfl
theorem flat_get (ss : List (ByteArray × Int)) {j k : Nat} (hj : j < ss.length) (hk : k < 2) : (flatK encL 2 ss.toArray)[j * 2 + k]? = (rowE (eT ss) (eC ss) j)[k]? := by
  have ht : j * 2 + k < ss.toArray.size * 2 := by rw [List.size_toArray]; omega
  have h := get_flatK encL 2 ss.toArray (j * 2 + k) ht
  have h2 : j * 2 + k < (flatK encL 2 ss.toArray).size := by rw [size_flatK]; exact ht
  rw [getElem!_pos (flatK encL 2 ss.toArray) _ h2] at h
  rw [Array.getElem?_eq_getElem h2, h, show (j * 2 + k) / 2 = j by omega, show (j * 2 + k) % 2 = k by omega]
  have e : ss.toArray[j]! = ss[j] := by
    rw [getElem!_pos ss.toArray j (by rw [List.size_toArray]; exact hj)]
    rfl
  rw [e, ← eTC ss j hj]
  match k, hk with
  | 0, _ => rfl
  | 1, _ => rfl
theorem holds_own {W : World} {blk cap : Nat} {l : List Value} {ss : List (ByteArray × Int)} (hb : W.heap[blk]? = some (.cells (List.toArray l) 27 (0, 0))) (hl : l.length = cap * 2) (hc : ss.length ≤ cap) (hr : ∀ j, j < ss.length → ∀ k, k < 2 → l[j * 2 + k]? = (rowE (eT ss) (eC ss) j)[k]?) : HoldsK encL 2 W blk 0 ss.toArray := by
  intro t ht
  rw [size_flatK, List.size_toArray] at ht
  have e := flat_get ss (j := t / 2) (k := t % 2) (by omega) (by omega)
  have e2 := hr (t / 2) (by omega) (t % 2) (by omega)
  rw [show t / 2 * 2 + t % 2 = t by omega] at e e2
  have h2 : t < (flatK encL 2 ss.toArray).size := by rw [size_flatK, List.size_toArray]; exact ht
  constructor
  · simp only [World.cell?, hb, Nat.zero_add, Option.isSome_none, Bool.false_eq_true, if_false, List.getElem?_toArray]
    rw [e2, ← e, getElem!_pos (flatK encL 2 ss.toArray) t h2, Array.getElem?_eq_getElem h2]
    rfl
  · simp [World.frozen?, hb]
theorem own_sorted {base : Nat} {W : World} {blk cap n : Nat} {l : List Value} {L : List (ByteArray × Int)} {os : Array Obj} (hb : W.heap[blk]? = some (.cells (List.toArray l) 27 (0, 0))) (hbase : base ≤ blk) (hl : l.length = cap * 2) (hm : cap ≤ maxLen) (hc : L.length ≤ cap) (hne : L ≠ []) :
    OwnE base (.slice (some ⟨blk, 0, none⟩) L.length cap) L (sortWorldK encL 2 W blk 0 n L.toArray os) := by
  refine .inr ⟨hne, blk, cap, _, rfl, hbase, sort_at hb, ?_, hm, hc, fun j hj k hk => ?_⟩
  · rw [Array.length_toList]
    simp [putCells, hl]
  · rw [Array.getElem?_toList]
    have h1 : j * 2 + k < 0 + (flatK encL 2 L.toArray).size := by rw [size_flatK, List.size_toArray]; omega
    have h3 : j * 2 + k < (flatK encL 2 L.toArray).size := by omega
    have h2 : j * 2 + k < l.length := by omega
    unfold putCells
    rw [Array.getElem?_mapIdx, List.getElem?_toArray, List.getElem?_eq_getElem h2, Option.map_some, if_pos ⟨Nat.zero_le _, h1⟩, Nat.sub_zero, ← flat_get L hj hk, getElem!_pos (flatK encL 2 L.toArray) _ h3, Array.getElem?_eq_getElem h3]
    rfl

theorem enters_cf : ∀ args w, (callFunc 51 args).run Tryz.prog w = .ok (.enter 51 args) w := fun args w => enters _ _ Tryz.func51 rfl args w
set_option maxHeartbeats 4000000 in
theorem calls_sorted {bm b n : Nat} {D0 : DataW Unit} (hN : Maps.size D0 ≤ 549755813888) (w : World) (hI : MapAt bm b n D0 (fun k => w.heap.size ≤ k) w) (htab : TabOk (fun k => w.heap.size ≤ k) w) {er : ByteArray → Int → Bool} {ft : Nat → ByteArray} {fc : Nat → Int} {m : Nat} (hm : ∀ z, hasE D0 z ↔ z ∈ bkL er ft fc m) (h62 : m < 4611686018427387904) :
    Calls Tryz.prog 49 #[.func (.func 90) #[] #[.pointer (some ⟨bm, 0, none⟩)], .func (.func 51) #[] #[]] w fun e w' => ∃ v, e = .returned v ∧ OwnE w.heap.size v (bkL er ft fc m) w' ∧ Fr (fun k => w.heap.size ≤ k) w w' := by
  have hcol := calls_collect hN w hI htab
  clear hI htab
  have mixed := mixed
  go_enter Tryz.func49, Tryz.ntmps49
  go_wp2_with (go_at_call 88; refine hcol.mono ?_; rintro e W ⟨v, ss, rfl, hk, hown, hfr⟩)
  have hL := sorted_bk (er := er) (ft := ft) (fc := fc) (m := m) hk.1 fun z => (hk.2 z).trans (hm z)
  have hlen : ss.length = (bkL er ft fc m).length := by rw [← hL]; exact (List.mergeSort_perm ss _).length_eq.symm
  have hbk := bkL_len er ft fc m
  rcases hown with ⟨rfl, rfl⟩ | ⟨hne, blk, cap, l, rfl, hbase, hb, hl, hmx, hc, hr⟩
  · have hcon := AnyF.slices_SortFunc_none Tryz.laysSort none 0 (.func (.func 51) #[] #[]) W
    change Calls Tryz.prog 89 _ _ _ at hcon
    go_wp2_with (go_at_call 89; refine hcon.mono ?_; rintro e w' ⟨rfl, rfl⟩)
    go_ret
    exact ⟨_, rfl, .inl ⟨List.eq_nil_of_length_eq_zero hlen.symm, rfl⟩, hfr⟩
  · have hblk : blk < W.heap.size := (Array.getElem?_eq_some_iff.1 hb).1
    have hcon := AnyQ.slices_SortFunc_total Tryz.laysSort 2 Tryz.isAgg27 Tryz.sizeOf27 encL (fun _ => rfl) (fun x v hv => by simp [encL] at hv; rcases hv with rfl | rfl <;> rfl) cfE swo_cfE 51 #[] blk 0 cap ss.toArray W enters_cf (fun _ _ _ _ x y => calls_cf x y _) (holds_own hb hl hc hr) hblk (by rw [List.size_toArray]; omega) tot_cfE
    change Calls Tryz.prog 89 _ _ _ at hcon
    rw [hL, List.size_toArray] at hcon
    have hwb : w.heap.size ≤ W.heap.size := hfr.size
    go_wp2_with (go_at_call 89; refine hcon.mono ?_; rintro e w' ⟨rfl, nn, os, rfl⟩)
    go_ret
    refine ⟨_, rfl, ?_, hfr.trans ⟨rfl, rfl, rfl, sort_size _ _ _ _ _, fun k hk hk' => sort_other hk (by omega)⟩⟩
    show OwnE _ (.slice (some ⟨blk, 0, none⟩) (bkL er ft fc m).length cap) _ _
    exact own_sorted hb hbase hl hmx (by omega) fun e => hne (List.eq_nil_of_length_eq_zero (by rw [hlen, e]; rfl))

end Go.Proofs.YtcadinbahmliiaaGreatDoor

/- The program's BookSort: the walk. Conditions: entries, at most fifty. -/
namespace Go.Proofs.YtcadinbahmliiaaGreatDoor
open Go.RowKit
set_option maxRecDepth 100000

def FcqN : List Value → Option (Value × List Bool)
  | [.slice none 0 0] => some (.slice none 0 0, [])
  | _ => none
theorem ok_cqN : SpecOk Tryz.prog 55 (specV FcqN) := by
  refine specV_ok (fun args w => enters 55 Tryz.f55 Tryz.func55 rfl args w) fun vs x ob hF ho w ht => ?_
  unfold FcqN at hF
  split at hF
  · simp only [Option.some.injEq, Prod.mk.injEq] at hF
    obtain ⟨rfl, rfl⟩ := hF
    refine (calls_clip0 w).mono ?_
    rintro e w' ⟨rfl, rfl⟩
    exact ⟨rfl, Fr.refl _ _⟩
  · cases hF
def gmCq : Gam := ext g0 55 (specV FcqN)
theorem gmCq_ok : GamOk Tryz.prog gmCq := ext_ok g0_ok ok_cqN
theorem trKm (m : Nat) (ft : Nat → ByteArray) (fc : Nat → Int) : execC Tryz.prog gmCq 100 noLam kRz (kTz (.v (.slice none 0 0))) (hpB m ft fc) (finC Tryz.prog fBk fun av H' => .out .ret [av] H')
    = Res.out .ret [AV.tup [AV.v (Value.slice none (0 : Nat) (0 : Nat)), AV.v (.bool true)]] (hpB m ft fc) := by kernel_rfl

set_option maxHeartbeats 2000000 in
theorem calls_keys (mb : Option Nat) (w : World) : Calls Tryz.prog 50 #[.map mb] w fun e w' => e = .returned (.func (.func 90) #[] #[.pointer (some ⟨w.heap.size, 0, none⟩)]) ∧ w' = w.alloc (.cells #[.map mb] 81) := by
  have tM : Tryz.prog.underlying 81 = some (.map 27 4) := by kernel_rfl
  have uM := run_underlying tM
  have aM := Tryz.isAgg81; have zM := Tryz.sizeOf81
  have mixed := mixed
  go_enter Tryz.func50, Tryz.ntmps50
  go_wp2
  go_ret
  exact ⟨rfl, rfl⟩

theorem own_size {X : World} {b n : Nat} {D : DataW Unit} (h : OwnM X b n D) : Maps.size D ≤ n := by
  obtain ⟨es, clock, hb, F, hs, rfl⟩ := h
  rw [Maps.size, length_sorted]
  simpa using hs

def lkB (m : Nat) (ft : Nat → ByteArray) (fc : Nat → Int) : List (ByteArray × Int) := bkL erB ft fc m
def qBk (m : Nat) (ft : Nat → ByteArray) (fc : Nat → Int) : Ex → List AV → List AB → Prop := fun _ l H' =>
  (lkB m ft fc = [] ∧ l = [.tup [.v (.slice none 0 0), .v (.bool true)]] ∧ H' = hpB m ft fc) ∨
  (lkB m ft fc ≠ [] ∧ l = [.tup [.sl 1 2 0 0 (lkB m ft fc).length (some (lkB m ft fc).length), .v (.bool true)]] ∧ H' = [.row false m 2 (rowE ft fc) 27, .row true (lkB m ft fc).length 2 (rowE (eT (lkB m ft fc)) (eC (lkB m ft fc))) 27])
abbrev fnKw (b : Nat) : Value := .func (.func 90) #[] #[.pointer (some ⟨b, 0, none⟩)]

theorem walk_bk {m : Nat} {ft : Nat → ByteArray} {fc : Nat → Int} (hm : m ≤ 50) (M : Nat → Prop) (vals : List Value) (w : World) (ν : Nu) (hM : ∀ k, w.heap.size ≤ k → M k) (hv : VRs ν [lsA m] vals) (hR : RH M ν (fun b => (hpB m ft fc).getD b .gone) w) (hdom : ∀ i b, ν i = some b → i < 1) :
    Calls Tryz.prog 22 vals.toArray w (RetG (qBk m ft fc) M ν w) := by
  rw [← callsIn_wide (n := 1), ← wideR_none]
  refine callsIn_of_wp Tryz.func22 bodyBk trivial ?_
  have hst := start_sr (fn := fBk) hv hR hdom
  rw [show fBk.ntmps - [lsA m].length = 27 from by kernel_rfl] at hst
  refine wpIn_seq (pieceL g0_ok hM hdom (T' := kT0 m) (H' := hpB m ft fc) (lv := lv3 [0] [] []) (by kernel_rfl) hst rfl (by rw [trK0]; exact ⟨rfl, rfl, rfl⟩) fun A1 X1 ν1 hS1 hd1 _ _ => ?_)
  show (Code.seq (.seq kR1 _) _).wpIn (wideR none) 1 Tryz.prog _ A1 X1
  refine wpIn_seq (wpIn_seq (pieceL g0_ok hM hdom (T' := kT1 m (decide ((m : Int) > 50))) (H' := hpB m ft fc) (lv := lv3 [0, 10] [] []) (by kernel_rfl) hS1 hd1 (by rw [trK1]; exact ⟨rfl, rfl, rfl⟩) fun A2 X2 ν2 hS2 hd2 _ _ => ?_))
  rw [show decide ((m : Int) > 50) = false from decide_eq_false (by omega)] at hS2
  show (Code.cond (.tmp 10) kR2 .skip).wpIn (wideR none) 1 Tryz.prog _ A2 X2
  refine wpIn_cond_false (hS2.at (z := .tmp 10) rfl) (wpIn_skip ?_)
  show (Code.seq (.region 3 kO3 false) _).wpIn (wideR none) 1 Tryz.prog _ A2 X2
  refine wpIn_seq (wpIn_region ?_)
  rw [k3_r, wpOpsIn_cons]
  refine op_value k3_0 k3_0o.2.1 (run_mk k3_0o.1) ?_
  rw [k3_0o.2.2]
  have hS3 := hS2.step hM (World.grownBy_alloc X2 (.map #[] 0) none) (fun r e => by cases e) (dst := some 11) (x := .map (some X2.heap.size)) rfl
  have hb : w.heap.size ≤ X2.heap.size := hS2.fr.size
  have hown0 : OwnM (X2.alloc (.map #[] 0)) X2.heap.size 0 (.map []) := World.ownsMap_made X2 _ _ _
  generalize X2.heap.size = b at *
  rw [wpOpsIn_cons]
  refine opL g0_ok hM k3_1 k3_1o.2.1 (by rw [k3_1o.1]; simp) (v := .v (.map (some b))) (ob := []) (T' := ((kT1 m false).set 11 (.v (.map (some b)))).set 4 (.v (.map (some b)))) (by kernel_rfl) rfl (by kernel_rfl) (by kernel_rfl) hS3 fun A4 X4 ν4 hS4 hd4 hk4 => ?_
  have hS5 : SR M w ν (kT3 m b) (hpB m ft fc) A4 X4 ν4 := hS4.less rfl (mask_less (live := [0, 4]) (by kernel_rfl)) rfl fun _ => .inl rfl
  have hd5 : A4.defers = [] := hd4.trans ((put_defers' ..).trans hd2)
  show (Code.seq (.seq kR4 (.block 0 (.loop kL))) _).wpIn (wideR none) 1 Tryz.prog _ A4 X4
  refine wpIn_seq (walk1 hm hM hdom hS5 hd5 hb (own_keep hown0 hk4) fun A6 X6 ν6 D hS6 hd6 hown6 hD => ?_)
  clear hS1 hS2 hS3 hS4 hS5 hst hd1 hd2 hd4 hd5 hk4 hown0
  show (Code.seq (.region 10 kO10 false) kRz).wpIn (wideR none) 1 Tryz.prog _ A6 X6
  refine wpIn_seq (wpIn_region ?_)
  rw [k10_r, wpOpsIn_cons]
  refine opL g0_ok hM k10_0 k10_0o.2.1 (by rw [k10_0o.1]; simp) (v := .v (.map (some b))) (ob := []) (T' := (kT5 m b m (decide ((m : Int) < m))).set 23 (.v (.map (some b)))) (by kernel_rfl) rfl (by kernel_rfl) (by kernel_rfl) hS6 fun A7 X7 ν7 hS7 hd7 hk7 => ?_
  have hown7 := own_keep hown6 hk7
  rw [wpOpsIn_cons]
  refine op_call k10_1 k10_1o.2.1 (run_cl1 k10_1o.1 (hS7.at (z := .tmp 23) rfl) (fun args w => enters _ _ Tryz.func50 rfl args w)) (calls_keys (some b) X7) ?_
  rintro e X8 ⟨rfl, hX8⟩
  refine ⟨_, rfl, ?_⟩
  rw [k10_1o.2.2, wpOpsIn_cons]
  have hS8 := hS7.step hM (World.grownBy_alloc X7 (.cells #[.map (some b)] 81) none) (fun r e => by cases e) (dst := some 24) (x := fnKw X7.heap.size) rfl
  have hown8 : OwnM (X7.alloc (.cells #[.map (some b)] 81)) b m D := hown7.alloc _
  have hbox : (X7.alloc (.cells #[.map (some b)] 81)).cell? ⟨X7.heap.size, 0, none⟩ = some (.map (some b)) := by
    have h := World.alloc_heap_new X7 (.cells #[.map (some b)] 81)
    simp only [World.cell?]
    rw [h]
    rfl
  have hbm : X7.heap.size < (X7.alloc (.cells #[.map (some b)] 81)).heap.size := by simp
  rw [← hX8] at hS8 hown8 hbox hbm
  clear hX8
  generalize X7.heap.size = bm at *
  have htab : TabOk (fun k => X8.heap.size ≤ k) X8 := hS8.heap.tab.mono fun k _ hk => hM k (Nat.le_trans hS8.fr.size hk)
  have hlt8 := hown8.lt
  refine op_call k10_2 k10_2o.2.1 (run_cl2 k10_2o.1 (hS8.at (z := .tmp 24) rfl) (fun args w => enters _ _ Tryz.func49 rfl args w)) (calls_sorted (Nat.le_trans (own_size hown8) (by omega)) X8 ⟨hbm, hbox, hown8, by omega, by omega⟩ htab hD (by omega)) ?_
  rintro e X9 ⟨v, rfl, hown9, hfr9⟩
  refine ⟨_, rfl, ?_⟩
  rw [k10_2o.2.2, wpOpsIn_cons]
  have fin : ∀ (A : Act) (X : World) (ν' : Nu) (T : List AV) (H : List AB), SR M w ν T H A X ν' → A.defers = [] → ∀ Γ, GamOk Tryz.prog Γ → (execC Tryz.prog Γ 100 noLam kRz T H (finC Tryz.prog fBk fun av H' => .out .ret [av] H')).ok (qBk m ft fc) → kRz.wpIn (wideR none) 1 Tryz.prog (bodyPost Tryz.prog fBk (RetG (qBk m ft fc) M ν w)) A X :=
    fun A X ν' T H hS hd Γ hΓ hr => pieceG hΓ hM (by kernel_rfl) hr hS hd fun e A' X' hp _ _ => fin_post hp
  have hd9 : ((A7.put (some 24) (fnKw bm)).put (some 25) v).defers = [] := (put_defers' ..).trans ((put_defers' ..).trans (hd7.trans hd6))
  rcases hown9 with ⟨he, rfl⟩ | ⟨hne, blk, cap, l, rfl, hbase, hb9, hl, hmx, hc, hr⟩
  · have hg9 : X8.grownBy X9 none := ⟨hfr9.os, hfr9.tape, hfr9.output, hfr9.size, fun k hk _ => hfr9.block k hk (by omega)⟩
    have hS9 := hS8.step hM hg9 (fun r e => by cases e) (dst := some 25) (x := .slice none 0 0) rfl
    refine opL g0_ok hM k10_3 k10_3o.2.1 (by rw [k10_3o.1]; simp) (v := .v (.slice none 0 0)) (ob := []) (by kernel_rfl) rfl (by kernel_rfl) rfl hS9 fun A10 X10 ν10 hS10 hd10 _ => ?_
    have hS11 : SR M w ν (kTz (.v (.slice none 0 0))) (hpB m ft fc) A10 X10 ν10 := hS10.less (by kernel_rfl) (mask_less (live := [7]) (by kernel_rfl)) rfl fun _ => .inl rfl
    show kRz.wpIn (wideR none) 1 Tryz.prog (bodyPost Tryz.prog fBk (RetG (qBk m ft fc) M ν w)) A10 X10
    exact fin A10 X10 ν10 _ _ hS11 (hd10.trans hd9) gmCq gmCq_ok (by rw [trKm]; exact .inl ⟨he, rfl, rfl⟩)
  · have hν1 : ν7 1 = none := by
      cases h : ν7 1 with
      | none => rfl
      | some b => exact absurd (hS8.dom 1 b h) (by simp)
    have hX : ∀ i b, ν7 i = some b → b.n < X8.heap.size := hS8.heap.lt
    obtain ⟨L, hL⟩ : ∃ L, bkL erB ft fc m = L := ⟨_, rfl⟩
    simp only [hL] at hne hc hr hd9 ⊢
    have h01 : upd ν7 1 ⟨blk, 0, cap⟩ 0 = ν7 0 := by simp [upd]
    have hup : ∀ i b, upd ν7 1 ⟨blk, 0, cap⟩ i = some b → (i = 1 ∧ b = ⟨blk, 0, cap⟩) ∨ (i ≠ 1 ∧ ν7 i = some b) := fun i b h => by
      unfold upd at h
      split at h
      · cases h
        exact .inl ⟨by assumption, rfl⟩
      · exact .inr ⟨by assumption, h⟩
    have hle : Le ν7 (upd ν7 1 ⟨blk, 0, cap⟩) := fun i b h => by
      by_cases e : i = 1
      · subst e; rw [hν1] at h; cases h
      · simpa [upd, e] using h
    have hRH9 : RH M (upd ν7 1 ⟨blk, 0, cap⟩) (fun b => ([.row false m 2 (rowE ft fc) 27, .row true L.length 2 (rowE (eT L) (eC L)) 27] : List AB).getD b .gone) X9 := by
      refine ⟨fun i => ?_, fun i j b b' hij hw hlv hb hb' => ?_, fun i b hw hb => ?_, fun i b hb => ?_, hS8.heap.tab.fr (hfr9.mono fun k _ hk => hM k (Nat.le_trans hS8.fr.size hk))⟩
      · match i with
        | 0 =>
          have := (hS8.heap.br 0).of_block (w' := X9) fun k hk _ => hfr9.block _ (hX 0 k hk) (by have := hX 0 k hk; omega)
          rcases this with ⟨a, b, c⟩ | ⟨b, l', t', fz, e, rest⟩
          · exact .inl ⟨a, b, h01.trans c⟩
          · exact .inr ⟨b, l', t', fz, h01.trans e, rest⟩
        | 1 => exact .inr ⟨⟨blk, 0, cap⟩, l, 27, (0, 0), upd_same _ _ _, hb9, fun _ => ⟨rfl, rfl, rfl, hl, hmx⟩, hc, fun j hj => ⟨⟨rfl, by simp [rowE, Value.oneCell']⟩, fun k hk => by rw [Nat.zero_add]; exact hr j hj k hk⟩⟩
        | i + 2 => trivial
      · rcases hup i b hb with ⟨rfl, rfl⟩ | ⟨h1, h2⟩
        · rcases hup j b' hb' with ⟨rfl, _⟩ | ⟨_, h4⟩
          · exact absurd rfl hij
          · have := hX j b' h4
            show blk ≠ b'.n
            omega
        · have := hS8.dom i b h2
          have : i = 0 := by simp at this; omega
          subst this
          cases hw
      · rcases hup i b hb with ⟨rfl, rfl⟩ | ⟨h1, h2⟩
        · exact hM _ (Nat.le_trans hS8.fr.size hbase)
        · have := hS8.dom i b h2
          have : i = 0 := by simp at this; omega
          subst this
          cases hw
      · rcases hup i b hb with ⟨rfl, rfl⟩ | ⟨h1, h2⟩
        · exact (Array.getElem?_eq_some_iff.1 hb9).1
        · exact Nat.lt_of_lt_of_le (hX i b h2) hfr9.size
    have hS9 := SR.put hS8 (dst := some 25) (x := .own 1 L.length) (v := .slice (some ⟨blk, 0, none⟩) L.length cap) rfl hle (by simp only [VR]; exact ⟨_, upd_same _ _ _, rfl⟩) hRH9 (hS8.fr.trans (hfr9.mono fun k _ hk => hM k (Nat.le_trans hS8.fr.size hk))) (fun i b hb => by
      rcases hup i b hb with ⟨rfl, rfl⟩ | ⟨h1, h2⟩
      · exact (by decide : 1 < 2)
      · have := hS8.dom i b h2
        simp at this ⊢
        omega)
    refine opL g0_ok hM k10_3 k10_3o.2.1 (by rw [k10_3o.1]; simp) (v := .own 1 L.length) (ob := []) (by kernel_rfl) rfl (by kernel_rfl) rfl hS9 fun A10 X10 ν10 hS10 hd10 _ => ?_
    have hS11 : SR M w ν (kTz (.own 1 L.length)) [.row false m 2 (rowE ft fc) 27, .row true L.length 2 (rowE (eT L) (eC L)) 27] A10 X10 ν10 := hS10.less (by kernel_rfl) (mask_less (live := [7]) (by kernel_rfl)) rfl fun _ => .inl rfl
    show kRz.wpIn (wideR none) 1 Tryz.prog (bodyPost Tryz.prog fBk (RetG (qBk m ft fc) M ν w)) A10 X10
    refine fin A10 X10 ν10 _ _ hS11 (hd10.trans hd9) g0 g0_ok ?_
    rw [trKz, show Int.toNat ((L.length : Int) - 0) = L.length by omega]
    refine needs_mk (by simp only [ob_cons, ob_nil, and_true, decide_eq_true_eq, ble_me]; omega) (.inr ?_)
    rw [show lkB m ft fc = L from hL]
    exact ⟨hne, rfl, rfl⟩

end Go.Proofs.YtcadinbahmliiaaGreatDoor

/- The reference's BookSort: contract. Conditions: entries. -/
namespace Go.Proofs.YtcadinbahmliiaaGreatDoor
open Go.RowKit
set_option maxRecDepth 100000

def bsL (m : Nat) (ft : Nat → ByteArray) (fc : Nat → Int) : List (ByteArray × Int) := bif decide (m > 50) then [] else bkL erB ft fc m
theorem bsL_len (m : Nat) (ft : Nat → ByteArray) (fc : Nat → Int) : (bsL m ft fc).length ≤ 50 := by
  unfold bsL
  have := bkL_len erB ft fc m
  cases h : decide (m > 50) with
  | true => exact Nat.zero_le _
  | false =>
    have := of_decide_eq_false h
    simp only [cond_false]
    omega
def FbsO (L : Nat → (Nat → ByteArray) → (Nat → Int) → List (ByteArray × Int)) : List SA → Option FR
  | [.row m g] => some { val := .tup [.own 0 (L m (itT g) (itC g)).length, .v (.bool (!decide (m > 50)))], new := [.row true (L m (itT g) (itC g)).length 2 (rowE (eT (L m (itT g) (itC g))) (eC (L m (itT g) (itC g)))) 27], obl := [allE m g] }
  | _ => none
def md_bs : List Md := [.rd 2 27]
theorem ok_bsS : SpecOk Tryz.prog 20 (specR md_bs (FbsO bsL)) := by
  refine specR_hr gmBS_ok Tryz.func20 rfl fun sas fr hF ho => ?_
  unfold FbsO at hF
  split at hF
  · rename_i m g
    cases hF
    simp only [ob_cons] at ho
    obtain ⟨h1, _⟩ := ho
    by_cases c : m > 50
    · refine ⟨[.row false m 2 (rowE (itT g) (itC g)) 27], oneL 0 errS, 100, .cons (ABeq.row fun j hj => allE_get h1 j hj) .nil, lam1 (c := loopAt 0 fBS) (by kernel_rfl) errS_ok, ?_⟩
      show GoodQ (execF Tryz.prog (gmBS erB lsB) (oneL 0 errS) 100 fBS [.sl 0 2 0 0 m none] [.row false m 2 (rowE (itT g) (itC g)) 27] (packK 1)) _
      rw [treeBS0]
      have e : bsL m (itT g) (itC g) = [] := by rw [bsL, decide_eq_true c]; rfl
      refine good_needs (by simp only [ob_cons, ob_nil, and_true, decide_eq_true_eq]; omega) (good_out ⟨_, ?_, rfl, .cons (ABeq.row fun j hj => (allE_get h1 j hj).symm) (.cons ?_ .nil)⟩)
      · simp only [e, decide_eq_true c]; rfl
      · simp only [e]
        exact ABeq.row fun j hj => absurd hj (Nat.not_lt_zero j)
    · have e : bsL m (itT g) (itC g) = bkL erB (itT g) (itC g) m := by rw [bsL, decide_eq_false c]; rfl
      simp only [e]
      generalize hL : bkL erB (itT g) (itC g) m = L
      have hS := sumBS m (itT g) (itC g) 27 (by omega)
      rw [hL] at hS
      refine ⟨[.row false m 2 (rowE (itT g) (itC g)) 27], lamBS m (itT g) (itC g) 27 L.length (eT L) (eC L), 100, .cons (ABeq.row fun j hj => allE_get h1 j hj) .nil, lam1 (by kernel_rfl) hS, ?_⟩
      show GoodQ (execF Tryz.prog (gmBS erB lsB) (lamBS m (itT g) (itC g) 27 L.length (eT L) (eC L)) 100 fBS [.sl 0 2 0 0 m none] [.row false m 2 (rowE (itT g) (itC g)) 27] (packK 1)) _
      rw [treeBS]
      refine good_cond (fun c1 => absurd (of_decide_eq_true c1) (by omega)) fun _ => good_needs ?_ (good_out ⟨_, ?_, rfl, .cons (ABeq.row fun j hj => (allE_get h1 j hj).symm) (Hsim.refl _)⟩)
      · simp only [ob_cons, ob_nil, and_true]
        exact chk_of ⟨trivial, .cons (ABeq.refl _) (.cons (ABeq.row fun j hj => absurd hj (Nat.not_lt_zero j)) .nil)⟩
      · rw [decide_eq_false c]; rfl
  · cases hF

end Go.Proofs.YtcadinbahmliiaaGreatDoor

/- pick, where there are no bytes; the lengths of rows. No conditions. -/
namespace Go.Proofs.YtcadinbahmliiaaGreatDoor
open Go.RowKit
set_option maxRecDepth 100000

end Go.Proofs.YtcadinbahmliiaaGreatDoor

/- What is drawn: entries: trees. Conditions: bytes. -/
namespace Go.Proofs.YtcadinbahmliiaaGreatDoor
open Go.RowKit
set_option maxRecDepth 100000

end Go.Proofs.YtcadinbahmliiaaGreatDoor

/- What is drawn: entries. Conditions: bytes. -/
namespace Go.Proofs.YtcadinbahmliiaaGreatDoor
open Go.RowKit
set_option maxRecDepth 100000

end Go.Proofs.YtcadinbahmliiaaGreatDoor

/- The laws' marks on entries: trees. Conditions: entries. -/
namespace Go.Proofs.YtcadinbahmliiaaGreatDoor
open Go.RowKit
set_option maxRecDepth 100000

abbrev lvMt : Ex → List Nat := lv3 [0, 3] [3] [2]
theorem rndMt_h (k : Int) (o : ByteArray) (u0 : _) (hu0 : (IntKind.wrap .i64 ((48 : Int) + Int.tmod k (10 : Int))) = u0) (u1 : _) (hu1 : (txOf [u8Of (IntKind.wrap .u8 u0)]) = u1) : execC Tryz.prog g0 100 noLam (loopAt 0 Tryz.f57) (mkT 0 20 ((lvMt .normal).zip [.v (i64 k), .v (.string o)])) [] (leafV 20 lvMt 0)
    = bif decide (k > (0 : Int)) then needs [decide ((0 : Int) ≤ IntKind.wrap .u8 u0), decide (IntKind.wrap .u8 u0 < (256 : Int)), Nat.ble (ByteArray.size u1 + ByteArray.size o) (9223372036854775807 : Nat)] (Res.out .normal [AV.v (.int .i64 (IntKind.wrap .i64 (Int.tdiv k (10 : Int)))), AV.v (.string (catB u1 o))] []) else Res.out (Ex.exit (0 : Nat)) [AV.v (.string o)] [] := by
  subst hu1 hu0
  kernel_rfl
theorem rndMt (k : Int) (o : ByteArray) : type_of% (rndMt_h k o _ rfl _ rfl) := rndMt_h k o _ rfl _ rfl

noncomputable abbrev lamMt (k : Int) (o : ByteArray) : Nat → Option Sum := oneL 0 (atS 20 (lvMt .normal) 0 [.v (i64 k), .v (.string ⟨⟨[]⟩⟩)] [] (fun K => K .normal (mkT 0 20 [(3, .v (.string o))]) []))
theorem treeMt (k : Int) (o : ByteArray) : execF Tryz.prog g0 (lamMt k o) 100 Tryz.f57 [.v (i64 k)] [] (packK 0)
    = bif decide (k ≤ (0 : Int)) then Res.out .ret [AV.v (.string (ByteArray.mk (Array.mk [(109 : UInt8), (48 : UInt8)])))] [] else needs [chk ([AV.v (.int .i64 k), AV.v (.string (ByteArray.mk (Array.mk [])))] = [AV.v (.int .i64 k), AV.v (.string (ByteArray.mk (Array.mk [])))] ∧ Hsim [] []), Nat.ble ((1 : Nat) + ByteArray.size o) (9223372036854775807 : Nat)] (Res.out .ret [AV.v (.string (catB (ByteArray.mk (Array.mk [(109 : UInt8)])) o))] []) := by kernel_rfl

theorem treeMt0 (k : Int) (o : ByteArray) : execF Tryz.prog g0 (oneL 0 errS) 100 Tryz.f57 [.v (i64 k)] [] (packK 0)
    = needs [decide (k ≤ (0 : Int))] (Res.out .ret [AV.v (.string (ByteArray.mk (Array.mk [(109 : UInt8), (48 : UInt8)])))] []) := by kernel_rfl

def FmtO (mt : Int → ByteArray) : List SA → Option FR
  | [.v (.int .i64 k)] => some { val := .v (.string (mt k)), obl := [decide (k ≤ 2 ^ 50)] }
  | _ => none
def gmMt (mt : Int → ByteArray) : Gam := ext g0 57 (specR [.val] (FmtO mt))
abbrev lvME : Ex → List Nat := lv3 [0, 1, 5] [1] [4]
abbrev hpME (m : Nat) (ft : Nat → ByteArray) (fc : Nat → Int) : List AB := [.row true m 2 (rowE ft fc) 27]
theorem rndME (mt : Int → ByteArray) (m : Nat) (ft : Nat → ByteArray) (fc : Nat → Int) (k : Int) (i : Nat) : execC Tryz.prog (gmMt mt) 100 noLam (loopAt 0 Tryz.f24) (mkT 0 29 ((lvME .normal).zip [.own 0 m, .v (i64 k), .v (i64 i)])) (hpME m ft fc) (leafV 29 lvME 1)
    = bif decide ((↑i : Int) < (m : Int)) then needs [decide (k ≤ (1125899906842624 : Int)), decide ((↑i : Int) < (m : Int)), decide (Int.toNat (↑i : Int) < m), decide ((↑i : Int) < (m : Int)), decide (Int.toNat (↑i : Int) < m)] (Res.out .normal [AV.own 0 m, AV.v (.int .i64 (IntKind.wrap .i64 (IntKind.wrap .i64 (k + (1 : Int)) + (1 : Int)))), AV.v (.int .i64 (IntKind.wrap .i64 ((↑i : Int) + (1 : Int))))] [AB.row true m 2 (fun q ↦ [Value.string (bif Nat.beq q (Int.toNat (↑i : Int)) then bif Nat.beq (Int.toNat (↑i : Int)) (Int.toNat (↑i : Int)) then mt k else ft (Int.toNat (↑i : Int)) else bif Nat.beq q (Int.toNat (↑i : Int)) then mt k else ft q), Value.int .u32 (bif Nat.beq q (Int.toNat (↑i : Int)) then IntKind.wrap .u32 (IntKind.wrap .i64 (k + (1 : Int))) else bif Nat.beq q (Int.toNat (↑i : Int)) then fc (Int.toNat (↑i : Int)) else fc q)]) 27]) else Res.out (Ex.exit (0 : Nat)) [AV.v (.int .i64 k)] [AB.row true m 2 (rowE ft fc) 27] := by kernel_rfl

noncomputable abbrev lamME (m : Nat) (ft : Nat → ByteArray) (fc : Nat → Int) (k k2 : Int) (gt : Nat → ByteArray) (gc : Nat → Int) : Nat → Option Sum := oneL 0 (atS 29 (lvME .normal) 1 [.own 0 m, .v (i64 k), .v (i64 (0 : Nat))] (hpME m ft fc) (fun K => K .normal (mkT 0 29 [(1, .v (i64 k2))]) (hpME m gt gc)))
theorem treeME (mt : Int → ByteArray) (m : Nat) (ft : Nat → ByteArray) (fc : Nat → Int) (k k2 : Int) (gt : Nat → ByteArray) (gc : Nat → Int) : execF Tryz.prog (gmMt mt) (lamME m ft fc k k2 gt gc) 100 Tryz.f24 [.own 0 m, .v (i64 k)] (hpME m ft fc) (packK 1)
    = needs [chk ([AV.own 0 m, AV.v (.int .i64 k), AV.v (.int .i64 0)] = [AV.own 0 m, AV.v (.int .i64 k), AV.v (.int .i64 0)] ∧ Hsim [AB.row true m 2 (rowE ft fc) 27] (hpME m ft fc))] (Res.out .ret [AV.v (.int .i64 k2)] [AB.row true m 2 (rowE gt gc) 27]) := by kernel_rfl

theorem rndMEs_h (mt : Int → ByteArray) (m : Nat) (ft : Nat → ByteArray) (fc : Nat → Int) (k : Int) (i : Nat) (u1 : _) (hu1 : (↑i : Int) = u1) (u0 : _) (hu0 : ((0 : Nat) + Int.toNat u1) = u0) : execC Tryz.prog (gmMt mt) 100 noLam (loopAt 0 Tryz.f24) (mkT 0 29 ((lvME .normal).zip [.sl 0 2 0 0 m (some m), .v (i64 k), .v (i64 i)])) (hpME m ft fc) (leafV 29 lvME 1)
    = bif decide (u1 < (m : Int)) then needs [decide (k ≤ (1125899906842624 : Int)), decide (u1 < (m : Int)), decide ((0 : Nat) + Int.toNat u1 < m), decide (u1 < (m : Int)), decide ((0 : Nat) + Int.toNat u1 < m)] (Res.out .normal [AV.sl 0 (2 : Nat) (0 : Nat) (0 : Nat) m (some m), AV.v (.int .i64 (IntKind.wrap .i64 (IntKind.wrap .i64 (k + (1 : Int)) + (1 : Int)))), AV.v (.int .i64 (IntKind.wrap .i64 (u1 + (1 : Int))))] [AB.row true m 2 (fun q ↦ [Value.string (bif Nat.beq q u0 then bif Nat.beq u0 u0 then mt k else ft u0 else bif Nat.beq q u0 then mt k else ft q), Value.int .u32 (bif Nat.beq q u0 then IntKind.wrap .u32 (IntKind.wrap .i64 (k + (1 : Int))) else bif Nat.beq q u0 then fc u0 else fc q)]) 27]) else Res.out (Ex.exit (0 : Nat)) [AV.v (.int .i64 k)] [AB.row true m 2 (rowE ft fc) 27] := by
  subst hu0 hu1
  kernel_rfl
theorem rndMEs (mt : Int → ByteArray) (m : Nat) (ft : Nat → ByteArray) (fc : Nat → Int) (k : Int) (i : Nat) : type_of% (rndMEs_h mt m ft fc k i _ rfl _ rfl) := rndMEs_h mt m ft fc k i _ rfl _ rfl

noncomputable abbrev lamMEs (m : Nat) (ft : Nat → ByteArray) (fc : Nat → Int) (k k2 : Int) (gt : Nat → ByteArray) (gc : Nat → Int) : Nat → Option Sum := oneL 0 (atS 29 (lvME .normal) 1 [.sl 0 2 0 0 m (some m), .v (i64 k), .v (i64 (0 : Nat))] (hpME m ft fc) (fun K => K .normal (mkT 0 29 [(1, .v (i64 k2))]) (hpME m gt gc)))
theorem treeMEs (mt : Int → ByteArray) (m : Nat) (ft : Nat → ByteArray) (fc : Nat → Int) (k k2 : Int) (gt : Nat → ByteArray) (gc : Nat → Int) : execF Tryz.prog (gmMt mt) (lamMEs m ft fc k k2 gt gc) 100 Tryz.f24 [.sl 0 2 0 0 m (some m), .v (i64 k)] (hpME m ft fc) (packK 1)
    = needs [chk ([AV.sl 0 (2 : Nat) (0 : Nat) (0 : Nat) m (some m), AV.v (.int .i64 k), AV.v (.int .i64 0)] = [AV.sl 0 (2 : Nat) (0 : Nat) (0 : Nat) m (some m), AV.v (.int .i64 k), AV.v (.int .i64 0)] ∧ Hsim [AB.row true m 2 (rowE ft fc) 27] (hpME m ft fc))] (Res.out .ret [AV.v (.int .i64 k2)] [AB.row true m 2 (rowE gt gc) 27]) := by kernel_rfl

abbrev hpHE (m : Nat) (ft : Nat → ByteArray) (fc : Nat → Int) : List AB := [.row false m 2 (rowE ft fc) 27]
theorem rndHE (mt : Int → ByteArray) (m : Nat) (ft : Nat → ByteArray) (fc : Nat → Int) (k : Int) (i : Nat) : execC Tryz.prog (gmMt mt) 100 noLam (loopAt 0 Tryz.f25) (mkT 0 33 ((lvME .normal).zip [.sl 0 2 0 0 m none, .v (i64 k), .v (i64 i)])) (hpHE m ft fc) (leafV 33 lvME 1)
    = bif decide ((↑i : Int) < (m : Int)) then needs [decide ((↑i : Int) < (m : Int)), decide ((0 : Nat) + Int.toNat (↑i : Int) < m), decide (k ≤ (1125899906842624 : Int))] (bif !eqB (ft ((0 : Nat) + Int.toNat (↑i : Int))) (mt k) then Res.out .ret [AV.v (.int .i64 (-1 : Int))] [AB.row false m 2 (rowE ft fc) 27] else needs [decide ((↑i : Int) < (m : Int)), decide ((0 : Nat) + Int.toNat (↑i : Int) < m)] (bif fc ((0 : Nat) + Int.toNat (↑i : Int)) != IntKind.wrap .u32 (IntKind.wrap .i64 (k + (1 : Int))) then Res.out .ret [AV.v (.int .i64 (-1 : Int))] [AB.row false m 2 (rowE ft fc) 27] else Res.out .normal [AV.sl 0 (2 : Nat) (0 : Nat) (0 : Nat) m none, AV.v (.int .i64 (IntKind.wrap .i64 (IntKind.wrap .i64 (k + (1 : Int)) + (1 : Int)))), AV.v (.int .i64 (IntKind.wrap .i64 ((↑i : Int) + (1 : Int))))] [AB.row false m 2 (rowE ft fc) 27])) else Res.out (Ex.exit (0 : Nat)) [AV.v (.int .i64 k)] [AB.row false m 2 (rowE ft fc) 27] := by kernel_rfl

noncomputable abbrev lamHE (m : Nat) (ft : Nat → ByteArray) (fc : Nat → Int) (k k2 : Int) : Nat → Option Sum := oneL 0 (atS 33 (lvME .normal) 1 [.sl 0 2 0 0 m none, .v (i64 k), .v (i64 (0 : Nat))] (hpHE m ft fc) (fun K => K .normal (mkT 0 33 [(1, .v (i64 k2))]) (hpHE m ft fc)))
theorem treeHE (mt : Int → ByteArray) (m : Nat) (ft : Nat → ByteArray) (fc : Nat → Int) (k k2 : Int) : execF Tryz.prog (gmMt mt) (lamHE m ft fc k k2) 100 Tryz.f25 [.sl 0 2 0 0 m none, .v (i64 k)] (hpHE m ft fc) (packK 1)
    = needs [chk ([AV.sl 0 (2 : Nat) (0 : Nat) (0 : Nat) m none, AV.v (.int .i64 k), AV.v (.int .i64 0)] = [AV.sl 0 (2 : Nat) (0 : Nat) (0 : Nat) m none, AV.v (.int .i64 k), AV.v (.int .i64 0)] ∧ Hsim [AB.row false m 2 (rowE ft fc) 27] (hpHE m ft fc))] (Res.out .ret [AV.v (.int .i64 k2)] [AB.row false m 2 (rowE ft fc) 27]) := by kernel_rfl

end Go.Proofs.YtcadinbahmliiaaGreatDoor

/- The laws' helpers on lists of wheels: trees. Conditions: a list of wheels. -/
namespace Go.Proofs.YtcadinbahmliiaaGreatDoor
open Go.RowKit
set_option maxRecDepth 100000

end Go.Proofs.YtcadinbahmliiaaGreatDoor

/- The laws' helpers on lists of wheels. Conditions: those that the words name. -/
namespace Go.Proofs.YtcadinbahmliiaaGreatDoor
open Go.RowKit
set_option maxRecDepth 100000

end Go.Proofs.YtcadinbahmliiaaGreatDoor

/- The laws' helpers on lists of entries: trees. Conditions: entries. -/
namespace Go.Proofs.YtcadinbahmliiaaGreatDoor
open Go.RowKit
set_option maxRecDepth 100000

abbrev lvSz : Ex → List Nat := lv3 [0, 1, 5] [1] [4]
abbrev hpEl (m : Nat) (ft : Nat → ByteArray) (fc : Nat → Int) (t : TypeId) : List AB := [.row false m 2 (rowE ft fc) t]
theorem rndSz_h (m : Nat) (ft : Nat → ByteArray) (fc : Nat → Int) (t : TypeId) (l : Int) (i : Nat) (u0 : _) (hu0 : (l - (↑(ByteArray.size (ft ((0 : Nat) + Int.toNat (↑i : Int)))) : Int)) = u0) (u1 : _) (hu1 : [AB.row false m 2 (rowE ft fc) t] = u1) (u2 : _) (hu2 : [AV.v (.int .i64 (-1 : Int))] = u2) : execC Tryz.prog g0 100 noLam (loopAt 0 Tryz.f19) (mkT 0 27 ((lvSz .normal).zip [.sl 0 2 0 0 m none, .v (i64 l), .v (i64 i)])) (hpEl m ft fc t) (leafV 27 lvSz 1)
    = bif decide ((↑i : Int) < (m : Int)) then needs [decide ((↑i : Int) < (m : Int)), decide ((0 : Nat) + Int.toNat (↑i : Int) < m)] (bif decide (IntKind.wrap .i64 u0 < (0 : Int)) then Res.out .ret u2 u1 else bif decide (IntKind.wrap .i64 u0 < (0 : Int)) then Res.out .ret u2 u1 else Res.out .normal [AV.sl 0 (2 : Nat) (0 : Nat) (0 : Nat) m none, AV.v (.int .i64 (IntKind.wrap .i64 u0)), AV.v (.int .i64 (IntKind.wrap .i64 ((↑i : Int) + (1 : Int))))] u1) else Res.out (Ex.exit (0 : Nat)) [AV.v (.int .i64 l)] u1 := by
  subst hu2 hu1 hu0
  kernel_rfl
theorem rndSz (m : Nat) (ft : Nat → ByteArray) (fc : Nat → Int) (t : TypeId) (l : Int) (i : Nat) : type_of% (rndSz_h m ft fc t l i _ rfl _ rfl _ rfl) := rndSz_h m ft fc t l i _ rfl _ rfl _ rfl

noncomputable abbrev lamSz (m : Nat) (ft : Nat → ByteArray) (fc : Nat → Int) (t : TypeId) (l l2 : Int) (q : Bool) : Nat → Option Sum := oneL 0 (atS 27 (lvSz .normal) 1 [.sl 0 2 0 0 m none, .v (i64 l), .v (i64 (0 : Nat))] (hpEl m ft fc t) (fun K => cond q (K .ret (mkT 0 27 [(4, .v (i64 (-1)))]) (hpEl m ft fc t)) (K .normal (mkT 0 27 [(1, .v (i64 l2))]) (hpEl m ft fc t))))
theorem treeSz (m : Nat) (ft : Nat → ByteArray) (fc : Nat → Int) (t : TypeId) (l l1 l2 : Int) (q : Bool) : execF Tryz.prog g0 (lamSz m ft fc t l1 l2 q) 100 Tryz.f19 [.sl 0 2 0 0 m none, .v (i64 l)] (hpEl m ft fc t) (packK 1)
    = bif decide (IntKind.wrap .i64 (l - (m : Int)) < (0 : Int)) then Res.out .ret [AV.v (.int .i64 (-1 : Int))] [AB.row false m 2 (rowE ft fc) t] else needs [chk ([AV.sl 0 (2 : Nat) (0 : Nat) (0 : Nat) m none, AV.v (.int .i64 (IntKind.wrap .i64 (l - (m : Int)))), AV.v (.int .i64 0)] = [AV.sl 0 (2 : Nat) (0 : Nat) (0 : Nat) m none, AV.v (.int .i64 l1), AV.v (.int .i64 0)] ∧ Hsim [AB.row false m 2 (rowE ft fc) t] (hpEl m ft fc t))] (bif q then Res.out .ret [AV.v (.int .i64 (-1 : Int))] [AB.row false m 2 (rowE ft fc) t] else Res.out .ret [AV.v (.int .i64 l2)] [AB.row false m 2 (rowE ft fc) t]) := by kernel_rfl

theorem treeSzB (m : Nat) (ft : Nat → ByteArray) (fc : Nat → Int) (t : TypeId) (l : Int) : execF Tryz.prog g0 (oneL 0 errS) 100 Tryz.f19 [.sl 0 2 0 0 m none, .v (i64 l)] (hpEl m ft fc t) (packK 1)
    = needs [decide (IntKind.wrap .i64 (l - (m : Int)) < (0 : Int))] (Res.out .ret [AV.v (.int .i64 (-1 : Int))] [AB.row false m 2 (rowE ft fc) t]) := by kernel_rfl

abbrev lvTE : Ex → List Nat := lv3 [0, 3, 4] [3] [2]
abbrev hpTE (m : Nat) (ft : Nat → ByteArray) (fc : Nat → Int) (t : TypeId) (gt : Nat → ByteArray) (gc : Nat → Int) : List AB := [.row false m 2 (rowE ft fc) t, .row true m 2 (rowE gt gc) 27]
theorem rndTE (m : Nat) (ft : Nat → ByteArray) (fc : Nat → Int) (t : TypeId) (gt : Nat → ByteArray) (gc : Nat → Int) (i : Nat) : execC Tryz.prog g0 100 noLam (loopAt 0 Tryz.f21) (mkT 0 23 ((lvTE .normal).zip [.sl 0 2 0 0 m none, .own 1 m, .v (i64 i)])) (hpTE m ft fc t gt gc) (leafV 23 lvTE 1)
    = bif decide ((↑i : Int) < (m : Int)) then needs [decide ((↑i : Int) < (m : Int)), decide ((0 : Nat) + Int.toNat (↑i : Int) < m), decide ((↑i : Int) < (m : Int)), decide (Int.toNat (↑i : Int) < m)] (Res.out .normal [AV.sl 0 (2 : Nat) (0 : Nat) (0 : Nat) m none, AV.own 1 m, AV.v (.int .i64 (IntKind.wrap .i64 ((↑i : Int) + (1 : Int))))] [AB.row false m 2 (rowE ft fc) t, AB.row true m 2 (fun q ↦ [Value.string (bif Nat.beq q (Int.toNat (↑i : Int)) then ft ((0 : Nat) + Int.toNat (↑i : Int)) else gt q), Value.int .u32 (bif Nat.beq q (Int.toNat (↑i : Int)) then fc ((0 : Nat) + Int.toNat (↑i : Int)) else gc q)]) 27]) else Res.out (Ex.exit (0 : Nat)) [AV.own 1 m] [AB.row false m 2 (rowE ft fc) t, AB.row true m 2 (rowE gt gc) 27] := by kernel_rfl

noncomputable abbrev lamTE (m : Nat) (ft : Nat → ByteArray) (fc : Nat → Int) (t : TypeId) : Nat → Option Sum := oneL 0 (atS 23 (lvTE .normal) 1 [.sl 0 2 0 0 m none, .own 1 m, .v (i64 (0 : Nat))] (hpTE m ft fc t (fun j => bif Nat.blt j 0 then ft j else ⟨⟨[]⟩⟩) (fun j => bif Nat.blt j 0 then fc j else 0)) (fun K => K .normal (mkT 0 23 [(3, .own 1 m)]) (hpTE m ft fc t ft fc)))
theorem treeTE (m : Nat) (ft : Nat → ByteArray) (fc : Nat → Int) (t : TypeId) : execF Tryz.prog g0 (lamTE m ft fc t) 100 Tryz.f21 [.sl 0 2 0 0 m none] (hpEl m ft fc t) (packK 1)
    = needs [decide ((m : Int) ≤ (m : Int)), decide ((m : Int) ≤ (1099511627776 : Int)), chk ([AV.sl 0 (2 : Nat) (0 : Nat) (0 : Nat) m none, AV.own 1 (Int.toNat (m : Int)), AV.v (.int .i64 0)] = [AV.sl 0 (2 : Nat) (0 : Nat) (0 : Nat) m none, AV.own 1 m, AV.v (.int .i64 0)] ∧ Hsim [AB.row false m 2 (rowE ft fc) t, AB.row true (Int.toNat (m : Int)) (2 : Nat) (fun _ ↦ [Value.string (ByteArray.mk (Array.mk [])), Value.int .u32 0]) (27 : Nat)] (hpTE m ft fc t (fun j ↦ bif Nat.blt j (0 : Nat) then ft j else ByteArray.mk (Array.mk [])) fun j ↦ bif Nat.blt j (0 : Nat) then fc j else (0 : Int)))] (Res.out .ret [AV.own 1 m] [AB.row false m 2 (rowE ft fc) t, AB.row true m 2 (rowE ft fc) 27]) := by kernel_rfl

theorem treeQE (s1 s2 : ByteArray) (c1 c2 : Int) : execF Tryz.prog g0 noLam 100 Tryz.f56 [.v (.agg ⟨[.string s1, .int .u32 c1]⟩), .v (.agg ⟨[.string s2, .int .u32 c2]⟩)] [] valK
    = bif !eqB s1 s2 then Res.out .ret [AV.v (.bool false)] [] else bif c1 != c2 then Res.out .ret [AV.v (.bool false)] [] else Res.out .ret [AV.v (.bool true)] [] := by kernel_rfl

def f_eqE : List Value → Option (Value × List Bool)
  | [.agg ⟨[.string s1, .int .u32 c1]⟩, .agg ⟨[.string s2, .int .u32 c2]⟩] => some (.bool true, [eqB s1 s2, c1 == c2])
  | _ => none
def gmQE : Gam := ext g0 56 (specV f_eqE)
abbrev lvQE : Ex → List Nat := lv3 [0, 1, 5] [] [4]
abbrev hpQE (m : Nat) (ft : Nat → ByteArray) (fc : Nat → Int) (gt : Nat → ByteArray) (gc : Nat → Int) : List AB := [.row false m 2 (rowE ft fc) 27, .row false m 2 (rowE gt gc) 27]
theorem rndQE (m : Nat) (ft : Nat → ByteArray) (fc : Nat → Int) (gt : Nat → ByteArray) (gc : Nat → Int) (i : Nat) : execC Tryz.prog gmQE 100 noLam (loopAt 0 Tryz.f23) (mkT 0 27 ((lvQE .normal).zip [.sl 0 2 0 0 m none, .sl 1 2 0 0 m none, .v (i64 i)])) (hpQE m ft fc gt gc) (leafV 27 lvQE 2)
    = bif decide ((↑i : Int) < (m : Int)) then needs [decide ((↑i : Int) < (m : Int)), decide ((0 : Nat) + Int.toNat (↑i : Int) < m), decide ((↑i : Int) < (m : Int)), decide ((0 : Nat) + Int.toNat (↑i : Int) < m), eqB (ft ((0 : Nat) + Int.toNat (↑i : Int))) (gt ((0 : Nat) + Int.toNat (↑i : Int))), fc ((0 : Nat) + Int.toNat (↑i : Int)) == gc ((0 : Nat) + Int.toNat (↑i : Int))] (Res.out .normal [AV.sl 0 (2 : Nat) (0 : Nat) (0 : Nat) m none, AV.sl 1 (2 : Nat) (0 : Nat) (0 : Nat) m none, AV.v (.int .i64 (IntKind.wrap .i64 ((↑i : Int) + (1 : Int))))] [AB.row false m 2 (rowE ft fc) 27, AB.row false m 2 (rowE gt gc) 27]) else Res.out (Ex.exit (0 : Nat)) [] [AB.row false m 2 (rowE ft fc) 27, AB.row false m 2 (rowE gt gc) 27] := by kernel_rfl

noncomputable abbrev lamQE (m : Nat) (ft : Nat → ByteArray) (fc : Nat → Int) (gt : Nat → ByteArray) (gc : Nat → Int) : Nat → Option Sum := oneL 0 (atS 27 (lvQE .normal) 2 [.sl 0 2 0 0 m none, .sl 1 2 0 0 m none, .v (i64 (0 : Nat))] (hpQE m ft fc gt gc) (fun K => K .normal (mkT 0 27 []) (hpQE m ft fc gt gc)))
theorem treeQES_h (m : Nat) (ft : Nat → ByteArray) (fc : Nat → Int) (gt : Nat → ByteArray) (gc : Nat → Int) (u0 : _) (hu0 : [AB.row false m 2 (rowE ft fc) 27, AB.row false m 2 (rowE gt gc) 27] = u0) (u1 : _) (hu1 : [AV.sl 0 (2 : Nat) (0 : Nat) (0 : Nat) m none, AV.sl 1 (2 : Nat) (0 : Nat) (0 : Nat) m none, AV.v (.int .i64 0)] = u1) : execF Tryz.prog gmQE (lamQE m ft fc gt gc) 100 Tryz.f23 [.sl 0 2 0 0 m none, .sl 1 2 0 0 m none] (hpQE m ft fc gt gc) (packK 2)
    = bif (m : Int) != (m : Int) then Res.out .ret [AV.v (.bool false)] u0 else needs [chk (u1 = u1 ∧ Hsim u0 (hpQE m ft fc gt gc))] (Res.out .ret [AV.v (.bool true)] u0) := by
  subst hu1 hu0
  kernel_rfl
theorem treeQES (m : Nat) (ft : Nat → ByteArray) (fc : Nat → Int) (gt : Nat → ByteArray) (gc : Nat → Int) : type_of% (treeQES_h m ft fc gt gc _ rfl _ rfl) := treeQES_h m ft fc gt gc _ rfl _ rfl

end Go.Proofs.YtcadinbahmliiaaGreatDoor
