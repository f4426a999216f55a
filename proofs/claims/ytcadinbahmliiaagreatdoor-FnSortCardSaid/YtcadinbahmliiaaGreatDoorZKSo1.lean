/- Sorted books have each right entry once: FnSort returns true, and its arguments read as before. Conditions: the tables, as the row lists them; tied by the card. -/
import Derived.Test.YtcadinbahmliiaaGreatDoorZD0
import Derived.Test.YtcadinbahmliiaaGreatDoorZD1
import Derived.Test.YtcadinbahmliiaaGreatDoorZD2
import Derived.Test.YtcadinbahmliiaaGreatDoorZD3
import Derived.Test.YtcadinbahmliiaaGreatDoorZD4
import Derived.Test.YtcadinbahmliiaaGreatDoorZD5
import Derived.Test.YtcadinbahmliiaaGreatDoorZD6
import Derived.Test.YtcadinbahmliiaaGreatDoorZD7
import Derived.Test.YtcadinbahmliiaaGreatDoorZD8
import Derived.Test.YtcadinbahmliiaaGreatDoorZD9
import Derived.Test.YtcadinbahmliiaaGreatDoorZKSo0
import Derived.StillTail
import Derived.RowKit3
import Derived.Below
import Derived.Shelf.SlSortCmp.NoneTotal
import Derived.Shelf.SlLaysF0
import Derived.Shelf.Abstract
import Derived.Test.YtcadinbahmliiaaGreatDoorTie
import Derived.SevenTiedAt
/- Regions whose order is left open, walked once in the order of the text: every operation of the head comes to one value and keeps an invariant of the world, in whatever order; the tail is forced. For every program whose orders are mixed. -/
namespace Go.Proofs.YtcadinbahmliiaaGreatDoor
open Go.RowKit

def NoQ : Exit → Act → World → Prop := fun _ _ _ => False

theorem noq_out : ¬ LetsOut NoQ := fun ⟨_, _, h⟩ => h

section
variable {P : Program} {ops : Array Oper} {md : Region.Mode} {I : World → Prop}

def Goes (P : Program) (I : World → Prop) (N : Nat) (dst : Option Tmp) (v : Value) : Result Next → Prop
  | .ok (.value u) w' => (∀ d, dst = some d → d < N → u = v) ∧ I w'
  | .ok .skip w' => (∀ d, dst = some d → d < N → undef = v) ∧ I w'
  | .ok (.enter f args) w' => Calls P f args w' fun e w'' => ∃ u, e = .returned u ∧ (∀ d, dst = some d → d < N → u = v) ∧ I w''
  | .ok (.row row args) w' => Rows P row args w' fun u w'' => (∀ d, dst = some d → d < N → u = v) ∧ I w''
  | _ => False

theorem put_congr {a : Act} {N : Nat} (hN : a.tmps.size = N) {dst : Option Tmp} {u v : Value} (h : ∀ d, dst = some d → d < N → u = v) : a.put dst u = a.put dst v := by
  cases dst with
  | none => rfl
  | some d =>
    by_cases hd : d < N
    · rw [h d rfl hd]
    · have h1 : a.tmps.size ≤ d := by rw [hN]; exact Nat.le_of_not_lt hd
      simp only [Act.put]
      rw [Array.setIfInBounds_eq_of_size_le h1, Array.setIfInBounds_eq_of_size_le h1]

theorem put_size (a : Act) (dst : Option Tmp) (v : Value) : (a.put dst v).tmps.size = a.tmps.size := by
  cases dst <;> simp [Act.put]

def Sure (P : Program) (ops : Array Oper) (I : World → Prop) (o : Oper) (v : Value) (a : Act) : Prop :=
  (Region.wanted o (yielded ops a.tmps) = true ∧ ∀ w, I w → Goes P I a.tmps.size o.dst v ((execOp a.eval o).run P w)) ∨
  (Region.wanted o (yielded ops a.tmps) = false ∧ v = undef)

theorem Sure.of_same {o : Oper} {v : Value} {a a' : Act} (hy : Sure P ops I o v a) (hs : a'.tmps.size = a.tmps.size) (he : execOp a'.eval o = execOp a.eval o)
    (hw : Region.wanted o (yielded ops a'.tmps) = Region.wanted o (yielded ops a.tmps)) : Sure P ops I o v a' := by
  unfold Sure at *
  rw [he, hw, hs]
  exact hy

theorem Sure.wpOp {i : Nat} {o : Oper} {v : Value} {a : Act} {w : World} {Q : Exit → Act → World → Prop} {K : Act → World → Prop} (hi : ops[i]? = some o) (hy : Sure P ops I o v a) (hI : I w)
    (hK : ∀ w', I w' → K (a.put o.dst v) w') : Go.wpOp P ops Q i K a w := by
  unfold Go.wpOp
  simp only [hi]
  rcases hy with ⟨hw, hg⟩ | ⟨hw, rfl⟩
  · simp only [hw, if_true]
    refine .inl ?_
    have hg := hg w hI
    unfold Oper.wp
    generalize (execOp a.eval o).run P w = r at *
    cases r with
    | ok x w' =>
      cases x <;> simp only [Goes] at hg <;> simp only [Oper.upon]
      case value u => rw [put_congr rfl hg.1]; exact hK _ hg.2
      case skip => rw [put_congr rfl hg.1]; exact hK _ hg.2
      case enter f args =>
        refine hg.mono ?_
        rintro e w'' ⟨u, rfl, hu, hI'⟩
        simp only
        rw [put_congr rfl hu]; exact hK _ hI'
      case row row args =>
        refine hg.mono ?_
        rintro u w'' ⟨hu, hI'⟩
        rw [put_congr rfl hu]; exact hK _ hI'
    | halt x w' => simp only [Goes] at hg
  · simp only [hw, Bool.false_eq_true, if_false]
    exact hK w hI

def wpSure (P : Program) (ops : Array Oper) (I : World → Prop) (Q : Act → Prop) : List Oper → Act → Prop
  | [], a => Q a
  | o :: rest, a => ∃ v, Sure P ops I o v a ∧ wpSure P ops I Q rest (a.put o.dst v)

theorem sure_nil {Q : Act → Prop} {a : Act} (h : Q a) : wpSure P ops I Q [] a := h

def slotOf (dst : Option Tmp) (a' : Act) : Value := match dst with | none => undef | some d => a'.tmps.getD d undef

theorem slotOf_put {a : Act} {dst : Option Tmp} {u : Value} : ∀ d, dst = some d → d < a.tmps.size → u = slotOf dst (a.put dst u) := by
  rintro d rfl hd
  simp [slotOf, Act.put, hd]

theorem goes_of_wp {o : Oper} {a a' : Act} {w : World} (hd : a'.defers = a.defers) (h : o.wp P a w (fun x w' => x = a' ∧ I w') NoQ) :
    Goes P I a.tmps.size o.dst (slotOf o.dst a') ((execOp a.eval o).run P w) ∧ ∃ u, a' = a.put o.dst u := by
  unfold Oper.wp at h
  generalize (execOp a.eval o).run P w = r at *
  cases r with
  | ok x w' =>
    cases x <;> simp only [Oper.upon] at h <;> simp only [Goes]
    case value u => obtain ⟨rfl, hI⟩ := h; exact ⟨⟨slotOf_put, hI⟩, u, rfl⟩
    case skip => obtain ⟨rfl, hI⟩ := h; exact ⟨⟨slotOf_put, hI⟩, _, rfl⟩
    case defer d =>
      obtain ⟨rfl, hI⟩ := h
      exfalso
      have : ∀ (x : Act) (dst : Option Tmp) (v : Value), (x.put dst v).defers = x.defers := fun x dst v => by cases dst <;> rfl
      rw [this] at hd
      have := congrArg List.length hd
      simp at this
    case enter f args =>
      refine ⟨h.mono fun e w'' hR => ?_, ?_⟩
      · cases e with
        | returned u => obtain ⟨rfl, hI⟩ := hR; exact ⟨u, rfl, slotOf_put, hI⟩
        | panicked c => exact hR.elim
        | outgrown => exact (noq_out hR).elim
      · obtain ⟨e, w'', fr, hR, _⟩ := h []
        cases e with
        | returned u => exact ⟨u, hR.1.symm⟩
        | panicked c => exact hR.elim
        | outgrown => exact (noq_out hR).elim
    case row row args =>
      refine ⟨h.mono fun u w'' hR => ?_, ?_⟩
      · obtain ⟨rfl, hI⟩ := hR; exact ⟨slotOf_put, hI⟩
      · obtain ⟨u, w'', hR, _⟩ := h default []
        exact ⟨u, hR.1.symm⟩
  | halt x w' => cases x <;> exact h.elim

theorem sure_step {Q : Act → Prop} {a a' : Act} {o : Oper} {rest : List Oper} (hne : ∃ w, I w) (hw : Region.wanted o (yielded ops a.tmps) = true)
    (h1 : ∀ w, I w → ∀ K : Act → World → Prop, (∀ w', I w' → K a' w') → o.wp P a w K NoQ) (hd : a'.defers = a.defers) (h2 : wpSure P ops I Q rest a') : wpSure P ops I Q (o :: rest) a := by
  have h := fun w hI => goes_of_wp (I := I) hd (h1 w hI (fun x w' => x = a' ∧ I w') (fun _ hI' => ⟨rfl, hI'⟩))
  obtain ⟨w0, hI0⟩ := hne
  obtain ⟨u, hu⟩ := (h w0 hI0).2
  have hv : a' = a.put o.dst (slotOf o.dst a') := by
    rw [hu]
    exact put_congr rfl slotOf_put
  refine ⟨slotOf o.dst a', .inl ⟨hw, fun w hI => (h w hI).1⟩, ?_⟩
  rw [← hv]
  exact h2

theorem sure_apart {oi oj : Oper} {v u : Value} {a : Act} (hap : oi.apart ops oj = true) (hsi : ∀ cs b, oi.op ≠ .select cs b) (hsj : ∀ cs b, oj.op ≠ .select cs b)
    (hi : Sure P ops I oi v a) (hj : Sure P ops I oj u (a.put oi.dst v)) :
    Sure P ops I oj u a ∧ Sure P ops I oi v (a.put oj.dst u) ∧ (a.put oi.dst v).put oj.dst u = (a.put oj.dst u).put oi.dst v := by
  obtain ⟨h1, h2, h3⟩ := Oper.apart_spec hap
  refine ⟨hj.of_same (put_size _ _ _).symm (execOp_put oj hsj a oi.dst v h1).symm (wanted_put oj a oi.dst v h1).symm,
    hi.of_same (put_size _ _ _) (execOp_put oi hsi a oj.dst u h3) (wanted_put oi a oj.dst u h3), Act.put_comm a v u h2⟩

def anySure (P : Program) (md : Region.Mode) (ops : Array Oper) (I : World → Prop) (n : Nat) (L : Array Bool → Act → Prop) : Nat → Array Bool → Act → Prop
  | 0, listed, a => L listed a
  | f + 1, listed, a =>
    Region.ready md ops listed ≠ [] ∧ ∀ i ∈ Region.ready md ops listed, i < n ∧ ∃ o v, ops[i]? = some o ∧ Sure P ops I o v a ∧ anySure P md ops I n L f (listed.setIfInBounds i true) (a.put o.dst v)

theorem any_of_sure {n g : Nat} {L : Array Bool → Act → Prop} {Q' : Exit → Act → World → Prop} (hL : ∀ listed a, L listed a → ∀ w, I w → wpAny P md ops Q' g listed a w) :
    ∀ (f : Nat) (listed : Array Bool) (a : Act) (w : World), I w → anySure P md ops I n L f listed a → wpAny P md ops Q' (f + g) listed a w
  | 0, listed, a, w, hI, h => by rw [Nat.zero_add]; exact hL _ _ h w hI
  | f + 1, listed, a, w, hI, h => by
    rw [show f + 1 + g = (f + g) + 1 by omega]
    refine ⟨fun h0 => absurd h0 h.1, fun i hi => ?_⟩
    obtain ⟨_, o, v, ho, hs, hr⟩ := h.2 i hi
    exact hs.wpOp ho hI fun w' hI' => any_of_sure hL f _ _ w' hI' hr

def sinkBut (md : Region.Mode) (ops : Array Oper) (fl : List Nat) (n : Nat) : Bool :=
  (List.range n).all fun i => fl.contains i || (List.range (n + 1)).any fun j => decide (i < j) && Region.waitsFor md ops j i

theorem tail_waits_but {fl : List Nat} {n : Nat} {listed : Array Bool} (hfl : ∀ i ∈ fl, listed.getD i true = true) (hs : sinkBut md ops fl n = true) (hc : Region.chainB md ops n = true) (hn : n < ops.size)
    (inv : HeadInv md ops n listed) : ∀ (d i : Nat), n - i = d → i < n → listed.getD i true = false → ∀ t, n ≤ t → t ∉ Region.ready md ops listed := by
  intro d
  induction d using Nat.strongRecOn with
  | _ d ih =>
    intro i hd hi hun t ht hr
    obtain ⟨_, ot, hot, hall⟩ := mem_ready.1 hr
    have htlt : t < ops.size := (Array.getElem?_eq_some_iff.1 hot).1
    rcases Nat.lt_or_ge n t with hlt | hge
    · have h1 := List.all_eq_true.1 hc t (List.mem_range.2 htlt)
      simp only [Bool.or_eq_true, decide_eq_true_eq] at h1
      rcases h1 with h1 | h1
      · omega
      · obtain ⟨o', ho', e, he, hb, hon⟩ := Region.waitsFor_spec h1
        obtain rfl : o' = ot := Option.some.inj (ho'.symm.trans hot)
        have h2 := hall e he hb
        rw [hon, getD_both (inv.tail (t - 1) (by omega) (by omega))] at h2
        cases h2
    · obtain rfl : t = n := by omega
      have h1 := List.all_eq_true.1 hs i (List.mem_range.2 hi)
      rw [Bool.or_eq_true] at h1
      rcases h1 with h1 | h1
      · have := hfl i (by simpa using h1)
        rw [hun] at this; cases this
      · obtain ⟨j, hj, hj2⟩ := List.any_eq_true.1 h1
        simp only [Bool.and_eq_true, decide_eq_true_eq] at hj2
        obtain ⟨oj, hoj, e, he, hb, hon⟩ := Region.waitsFor_spec hj2.2
        have hjle : j ≤ t := by have := List.mem_range.1 hj; omega
        by_cases hjt : j = t
        · subst hjt
          obtain rfl : oj = ot := Option.some.inj (hoj.symm.trans hot)
          have h2 := hall e he hb
          rw [hon, getD_both hun] at h2
          cases h2
        · cases hl : listed.getD j false with
          | true =>
            have h2 := inv.closed j oj hoj hl e he hb
            rw [hon, getD_both hun] at h2
            cases h2
          | false =>
            have hjs : j < listed.size := by rw [inv.size]; omega
            exact ih (t - j) (by omega) j rfl (by omega) (getD_in hjs hl) t (Nat.le_refl _) hr

theorem anySure_first {fl : List Nat} {n i : Nat} {oi : Oper} {v : Value} {L : Array Bool → Act → Prop} (hi : ops[i]? = some oi) (hsel : ∀ (j : Nat) (o : Oper) cs b, ops[j]? = some o → o.op ≠ .select cs b)
    (hs : sinkBut md ops fl n = true) (hc : Region.chainB md ops n = true) (hn : n < ops.size) (hin : i < n)
    (hdone : ∀ listed a, L listed a → ∀ j ∈ Region.ready md ops listed, n ≤ j) :
    ∀ (f : Nat) (listed : Array Bool) (a : Act), HeadInv md ops n listed → (∀ i ∈ fl, listed.getD i true = true) →
      (∀ j oj, ops[j]? = some oj → j ≠ i → listed.getD j true = false → (∀ e ∈ oj.after, Region.binds md e = true → e.on ≠ i) → oi.apart ops oj = true) →
      i ∈ Region.ready md ops listed → Sure P ops I oi v a →
      anySure P md ops I n L f (listed.setIfInBounds i true) (a.put oi.dst v) → anySure P md ops I n L (f + 1) listed a := by
  intro f
  have inHead : ∀ (listed : Array Bool), HeadInv md ops n listed → (∀ i ∈ fl, listed.getD i true = true) → i ∈ Region.ready md ops listed → ∀ j ∈ Region.ready md ops listed, j < n := by
    intro listed inv hfl hr j hj
    rcases Nat.lt_or_ge j n with h | h
    · exact h
    · exact absurd hj (tail_waits_but hfl hs hc hn inv _ i rfl hin (mem_ready.1 hr).1 j h)
  induction f with
  | zero =>
    intro listed a inv hfl _ hr hy H
    refine ⟨fun h => (by rw [h] at hr; cases hr), fun j hj => ⟨inHead listed inv hfl hr j hj, ?_⟩⟩
    by_cases hji : j = i
    · subst hji; exact ⟨oi, v, hi, hy, H⟩
    · have := hdone _ _ H j (ready_mono hj hji)
      have := inHead listed inv hfl hr j hj
      omega
  | succ f ih =>
    intro listed a inv hfl hfree hr hy H
    have hun := (mem_ready.1 hr).1
    refine ⟨fun h => (by rw [h] at hr; cases hr), fun j hj => ⟨inHead listed inv hfl hr j hj, ?_⟩⟩
    by_cases hji : j = i
    · subst hji; exact ⟨oi, v, hi, hy, H⟩
    · obtain ⟨_, oj, u, hoj, hsj, hr2⟩ := H.2 j (ready_mono hj hji)
      obtain ⟨hjun, oj', hoj', hall⟩ := mem_ready.1 hj
      obtain rfl : oj' = oj := Option.some.inj (hoj'.symm.trans hoj)
      have hnot : ∀ e ∈ oj'.after, Region.binds md e = true → e.on ≠ i := fun e he hb heq => by
        have h1 := hall e he hb
        rw [heq, getD_both hun] at h1
        cases h1
      obtain ⟨s1, s2, s3⟩ := sure_apart (hfree j oj' hoj hji hjun hnot) (fun cs b => hsel i oi cs b hi) (fun cs b => hsel j oj' cs b hoj) hy hsj
      refine ⟨oj', u, hoj, s1, ih (listed.setIfInBounds j true) _ (inv.set hj (inHead listed inv hfl hr j hj)) ?_ ?_ (ready_mono hr (Ne.symm hji)) s2 ?_⟩
      · intro k hk
        by_cases hjk : j = k
        · subst hjk; rw [hfl j hk] at hjun; cases hjun
        · rw [getD_set_ne true hjk]; exact hfl k hk
      · intro k ok hk hki hun' hno
        refine hfree k ok hk hki ?_ hno
        by_cases hjk : j = k
        · subst hjk; exact hjun
        · rw [getD_set_ne true hjk] at hun'; exact hun'
      · rw [← s3, Array.setIfInBounds_comm _ _ hji]
        exact hr2

def orderL (md : Region.Mode) (ops : Array Oper) (n : Nat) (E : Array Bool → Bool) : List Nat → Array Bool → Bool
  | [], listed => E listed
  | k :: r, listed => decide (k < n) && (Region.ready md ops listed).contains k && Region.free md ops listed k && orderL md ops n E r (listed.setIfInBounds k true)

theorem anySure_of {fl : List Nat} {n g : Nat} {Lq : Act → Prop} (hsel : Region.noSelect ops = true) (hs : sinkBut md ops fl n = true) (hc : Region.chainB md ops n = true) (hn : n < ops.size) :
    ∀ (l : List Nat) (lo : List Oper) (listed : Array Bool) (a : Act), l.map (ops[·]?) = lo.map some → HeadInv md ops n listed → (∀ i ∈ fl, listed.getD i true = true) →
    orderL md ops n (fun listed => Region.seqB md ops g n listed) l listed = true → wpSure P ops I Lq lo a →
    anySure P md ops I n (fun listed' a' => Region.seqB md ops g n listed' = true ∧ Lq a') l.length listed a := by
  intro l
  induction l with
  | nil =>
    intro lo listed a hm _ _ hB h
    cases lo with
    | nil => exact ⟨hB, h⟩
    | cons o lo => simp at hm
  | cons k l ih =>
    intro lo listed a hm inv hfl hB h
    cases lo with
    | nil => simp at hm
    | cons o lo =>
      simp only [List.map_cons, List.cons.injEq] at hm
      obtain ⟨h0, hm⟩ := hm
      simp only [orderL, Bool.and_eq_true, decide_eq_true_eq] at hB
      obtain ⟨⟨⟨hkn, hr⟩, hf⟩, hB'⟩ := hB
      have hr' : k ∈ Region.ready md ops listed := by simpa using hr
      obtain ⟨v, hy, hK⟩ := h
      refine anySure_first h0 (Region.noSelect_spec hsel) hs hc hn hkn (fun listed' a' hL => seqB_ready hL.1) l.length listed a inv hfl (Region.free_spec h0 hf) hr' hy
        (ih lo _ _ hm (inv.set hr' hkn) ?_ hB' hK)
      intro i hi
      by_cases hki : k = i
      · subst hki
        have h1 := hfl k hi
        rw [(mem_ready.1 hr').1] at h1
        cases h1
      · rw [getD_set_ne true hki]; exact hfl i hi

def isMove (o : Oper) : Bool := o.guard.isNone && match o.op with | .move _ => true | .assign _ => true | _ => false

def moved (a : Act) (o : Oper) : Act := match o.op with | .move x => a.put o.dst (a.eval x) | .assign x => a.put o.dst (a.eval x) | _ => a

theorem isMove_yields {o : Oper} {a : Act} (h : isMove o = true) : ∃ v, Yields P ops o v a ∧ moved a o = a.put o.dst v := by
  simp only [isMove, Bool.and_eq_true] at h
  obtain ⟨hg, h⟩ := h
  have hg : o.guard = none := by simpa using hg
  have hw : Region.wanted o (yielded ops a.tmps) = true := by simp [Region.wanted, hg]
  cases ho : o.op <;> rw [ho] at h <;> first | cases h | skip
  case move x => exact ⟨a.eval x, Or.inl ⟨hw, fun w => by simp [execOp, ho, pure]⟩, by simp [moved, ho]⟩
  case assign x => exact ⟨a.eval x, Or.inl ⟨hw, fun w => by simp [execOp, ho, pure]⟩, by simp [moved, ho]⟩

def floatL (md : Region.Mode) (ops : Array Oper) (n : Nat) (E : Array Bool → Bool) : List Nat → Array Bool → Bool
  | [], listed => E listed
  | k :: r, listed => decide (k < n) && ((ops[k]?).map isMove).getD false && (Region.ready md ops listed).contains k && Region.free md ops listed k && floatL md ops n E r (listed.setIfInBounds k true)

def Puts (Q : Exit → Act → World → Prop) : Prop := ∀ c x v a w, Q (.panic c) (a.put x v) w → Q (.panic c) a w

theorem panic_put {a : Act} {x : Option Tmp} {v : Value} {R : Prop} (h : (a.put x v).defers = [] ∧ R) : a.defers = [] ∧ R := by
  cases x <;> exact h

theorem floats_first {fl : List Nat} {n : Nat} {Q : Exit → Act → World → Prop} {E : Array Bool → Bool} (hsel : Region.noSelect ops = true) (hQ : Puts Q) (w : World) : ∀ (l : List Nat) (lo : List Oper) (f : Nat) (listed : Array Bool) (a : Act), l.map (ops[·]?) = lo.map some → HeadInv md ops n listed →
    (∀ i ∈ fl, i ∈ l ∨ listed.getD i true = true) → floatL md ops n E l listed = true →
    (∀ listed', HeadInv md ops n listed' → (∀ i ∈ fl, listed'.getD i true = true) → E listed' = true → wpAny P md ops Q f listed' (lo.foldl moved a) w) → wpAny P md ops Q (l.length + f) listed a w := by
  intro l
  induction l with
  | nil =>
    intro lo f listed a hm inv hfl hB h
    cases lo with
    | cons o lo => simp at hm
    | nil =>
      simp only [List.length_nil, Nat.zero_add]
      exact h listed inv (fun i hi => (hfl i hi).resolve_left (by simp)) hB
  | cons k l ih =>
    intro lo f listed a hm inv hfl hB h
    cases lo with
    | nil => simp at hm
    | cons o lo =>
      simp only [List.map_cons, List.cons.injEq] at hm
      obtain ⟨h0, hm⟩ := hm
      simp only [floatL, Bool.and_eq_true, decide_eq_true_eq] at hB
      obtain ⟨⟨⟨⟨hkn, hmv⟩, hr⟩, hf⟩, hB'⟩ := hB
      rw [h0] at hmv
      obtain ⟨v, hy, hv⟩ := isMove_yields (P := P) (ops := ops) (a := a) (by simpa using hmv)
      have hr' : k ∈ Region.ready md ops listed := by simpa using hr
      have hk : k < listed.size := by
        rw [inv.size]
        exact (Array.getElem?_eq_some_iff.1 h0).1
      rw [show (k :: l).length + f = (l.length + f) + 1 by simp only [List.length_cons]; omega]
      refine wpAny_first h0 (Region.noSelect_spec hsel) (fun c a w h => hQ c _ _ a w h) (l.length + f) listed a w (Region.free_spec h0 hf) hr' hy ?_
      refine ih lo f _ _ hm (inv.set hr' hkn) ?_ hB' ?_
      · intro i hi
        rcases hfl i hi with h1 | h1
        · rcases List.mem_cons.1 h1 with rfl | h1
          · right
            simp [hk]
          · exact .inl h1
        · right
          by_cases hki : k = i
          · subst hki
            simp [hk]
          · rw [getD_set_ne true hki]; exact h1
      · intro listed' inv' hfl' hE
        rw [← hv]
        exact h listed' inv' hfl' hE

def regionB (ops : Array Oper) (fl hd : List Nat) (n : Nat) : Bool :=
  Region.noSelect ops && decide (n < ops.size) && decide (fl.length + hd.length = n) && sinkBut .any ops fl n && Region.chainB .any ops n &&
  floatL .any ops n (fun listed => orderL .any ops n (fun listed => Region.seqB .any ops (ops.size - n) n listed) hd listed) fl (Array.replicate ops.size false)

theorem wp_region_sure {id : Nat} {Q : Exit → Act → World → Prop} {a : Act} {w : World} {l : List Oper} (fl hd : List Nat) (lf lh lt : List Oper) (n : Nat) (I : World → Prop) (hm : P.follows .mixedOrders = true) (hQ : Puts Q)
    (hB : regionB l.toArray fl hd n = true) (h1 : fl.map (l.toArray[·]?) = lf.map some) (h2 : hd.map (l.toArray[·]?) = lh.map some) (h3 : l.drop n = lt) (hI : I { w with drawn := w.drawn + 1 })
    (h : wpSure P l.toArray I (fun a' => ∀ w', I w' → wpList P l.toArray Q lt a' w') lh (lf.foldl moved a)) : (Code.region id l.toArray true).wp P Q a w := by
  simp only [regionB, Bool.and_eq_true, decide_eq_true_eq] at hB
  obtain ⟨⟨⟨⟨⟨hsel, hn⟩, hlen⟩, hs⟩, hc⟩, hfl⟩ := hB
  subst h3
  have hdl : (l.drop n).length = l.toArray.size - n := by simp
  have inv0 : HeadInv .any l.toArray n (Array.replicate l.toArray.size false) :=
    ⟨by simp, fun j oj _ hl => (by rw [getD_replicate_false] at hl; cases hl), fun t _ ht => getD_in (by simpa using ht) (getD_replicate_false _ _)⟩
  refine wp_region_any hm ?_
  have hsz : l.toArray.size = fl.length + (hd.length + (l.toArray.size - n)) := by omega
  rw [hsz]
  have H := floats_first (P := P) (Q := Q) (fl := fl) hsel hQ { w with drawn := w.drawn + 1 } fl lf (hd.length + (l.toArray.size - n)) (Array.replicate l.toArray.size false) a h1 inv0 (fun i hi => .inl hi) hfl ?_
  · rw [← hsz] at *
    exact H
  · intro listed' inv' hfl' hE
    refine any_of_sure (I := I) (n := n) (L := fun listed' a' => Region.seqB .any l.toArray (l.toArray.size - n) n listed' = true ∧ ∀ w', I w' → wpList P l.toArray Q (l.drop n) a' w') ?_ hd.length listed' _ _ hI
      (anySure_of hsel hs hc hn hd lh listed' _ h2 inv' hfl' hE h)
    rintro listed a' ⟨hq, hl⟩ w' hI'
    have := wpAny_of_seq (md := .any) (Q' := Q) (l.drop n) n listed a' w' (fun j => by simp [List.getElem?_drop]) (by rw [hdl]; exact hq) (hl w' hI')
    rwa [hdl] at this
def headFrom (fl : List Nat) : Nat → Nat → List Oper → List Oper
  | _, 0, _ => []
  | _, _ + 1, [] => []
  | k, m + 1, o :: l => if fl.elem k then headFrom fl (k + 1) m l else o :: headFrom fl (k + 1) m l

theorem headFrom_map (fl : List Nat) (L : List Oper) : ∀ (m k : Nat) (l : List Oper), (∀ j, l[j]? = L[k + j]?) → m ≤ l.length →
    ((List.range' k m).filter fun i => !fl.elem i).map (L.toArray[·]?) = (headFrom fl k m l).map some := by
  intro m
  induction m with
  | zero => intro k l _ _; simp [headFrom]
  | succ m ih =>
    intro k l hl hm
    cases l with
    | nil => simp at hm
    | cons o l =>
      have h0 : L[k]? = some o := by simpa using (hl 0).symm
      have ih' := ih (k + 1) l (fun j => by have := hl (j + 1); simpa [Nat.add_assoc, Nat.add_comm 1 j] using this) (by simpa using hm)
      simp only [List.range'_succ, List.filter_cons, headFrom]
      by_cases hf : fl.elem k
      · simp only [hf, Bool.not_true, Bool.false_eq_true, if_false, if_true]
        exact ih'
      · simp only [hf, Bool.not_false, Bool.false_eq_true, if_false, if_true, List.map_cons, ih']
        simp [h0]

theorem floats_map (L : List Oper) : ∀ (fl : List Nat), (∀ k ∈ fl, k < L.length) → fl.map (L.toArray[·]?) = (fl.filterMap (L[·]?)).map some
  | [], _ => rfl
  | k :: fl, h => by
    have hk := h k (by simp)
    have h0 : L[k]? = some L[k] := by simp [hk]
    simp only [List.map_cons, List.filterMap_cons, h0]
    rw [floats_map L fl (fun j hj => h j (by simp [hj]))]
    simp [hk]

theorem wp_region_same {id : Nat} {Q : Exit → Act → World → Prop} {a : Act} {w : World} {l : List Oper} (fl : List Nat) (n : Nat) (hm : P.follows .mixedOrders = true) (hQ : Puts Q)
    (hB : regionB l.toArray fl ((List.range' 0 n).filter fun i => !fl.elem i) n = true) (hf : fl.all (· < n) = true)
    (h : (∃ w', w' = w.drew) → wpSure P l.toArray (fun w' => w' = w.drew) (fun a' => wpList P l.toArray Q (l.drop n) a' w.drew) (headFrom fl 0 n l) ((fl.filterMap (l[·]?)).foldl moved a)) :
    (Code.region id l.toArray true).wp P Q a w := by
  have hn : n < l.length := by
    simp only [regionB, Bool.and_eq_true, decide_eq_true_eq] at hB
    simpa using hB.1.1.1.1.2
  have hf' : ∀ k ∈ fl, k < n := by simpa using hf
  have h' : ∀ (lo : List Oper) (a : Act), wpSure P l.toArray (fun w' => w' = w.drew) (fun a' => wpList P l.toArray Q (l.drop n) a' w.drew) lo a →
      wpSure P l.toArray (fun w' => w' = w.drew) (fun a' => ∀ w', w' = w.drew → wpList P l.toArray Q (l.drop n) a' w') lo a := by
    intro lo
    induction lo with
    | nil => intro a h w' hw; subst hw; exact h
    | cons o lo ih => rintro a ⟨v, hs, h⟩; exact ⟨v, hs, ih _ h⟩
  exact wp_region_sure fl _ _ _ _ n (fun w' => w' = w.drew) hm hQ hB (floats_map l fl fun k hk => Nat.lt_trans (hf' k hk) hn) (headFrom_map fl l n 0 l (fun j => by simp) (Nat.le_of_lt hn)) rfl
    rfl (h' _ _ (h ⟨_, rfl⟩))
end
end Go.Proofs.YtcadinbahmliiaaGreatDoor

/- The order of a book: one list, however it came; slices.SortFunc laid. No conditions. -/
namespace Go.Proofs.YtcadinbahmliiaaGreatDoor
open Go.RowKit Go.Shelf Go.Sort
set_option maxRecDepth 100000

def Tryz.laysSort_ren : Go.Shelf.Ren := ⟨fun | 6 => 89 | 15 => 135 | 14 => 134 | 28 => 184 | 29 => 185 | 20 => 176 | 21 => 177 | 22 => 178 | 23 => 179 | 24 => 180 | 25 => 181 | 26 => 182 | 27 => 183 | 46 => 208 | 47 => 209 | 48 => 210 | 49 => 211 | 50 => 212 | 57 => 230 | n => n, fun | 22 => 41 | 24 => 27 | 25 => 89 | 3 => 3 | 39 => 172 | 0 => 0 | 53 => 22 | 55 => 206 | 4 => 4 | 46 => 199 | 45 => 198 | 50 => 57 | 5 => 5 | 9 => 9 | 66 => 228 | 70 => 232 | 76 => 249 | 77 => 250 | n => n, fun | n => n⟩
theorem Tryz.laysSort : Go.Proofs.SlLaysF0.n6 Tryz.prog Tryz.laysSort_ren := {
  mixed := by kernel_rfl
  f6 := ⟨Tryz.f89.name, by decide, Tryz.func89.trans (congrArg some (by kernel_rfl))⟩
  f14 := ⟨Tryz.f134.name, by decide, Tryz.func134.trans (congrArg some (by kernel_rfl))⟩
  f15 := Tryz.func135.trans (congrArg some (by kernel_rfl))
  f20 := ⟨Tryz.f176.name, by decide, Tryz.func176.trans (congrArg some (by kernel_rfl))⟩
  f21 := ⟨Tryz.f177.name, by decide, Tryz.func177.trans (congrArg some (by kernel_rfl))⟩
  f22 := ⟨Tryz.f178.name, by decide, Tryz.func178.trans (congrArg some (by kernel_rfl))⟩
  f23 := ⟨Tryz.f179.name, by decide, Tryz.func179.trans (congrArg some (by kernel_rfl))⟩
  f24 := ⟨Tryz.f180.name, by decide, Tryz.func180.trans (congrArg some (by kernel_rfl))⟩
  f25 := ⟨Tryz.f181.name, by decide, Tryz.func181.trans (congrArg some (by kernel_rfl))⟩
  f26 := ⟨Tryz.f182.name, by decide, Tryz.func182.trans (congrArg some (by kernel_rfl))⟩
  f27 := ⟨Tryz.f183.name, by decide, Tryz.func183.trans (congrArg some (by kernel_rfl))⟩
  f28 := Tryz.func184.trans (congrArg some (by kernel_rfl))
  f29 := Tryz.func185.trans (congrArg some (by kernel_rfl))
  f46 := ⟨Tryz.f208.name, by decide, Tryz.func208.trans (congrArg some (by kernel_rfl))⟩
  f47 := Tryz.func209.trans (congrArg some (by kernel_rfl))
  f48 := Tryz.func210.trans (congrArg some (by kernel_rfl))
  f49 := ⟨Tryz.f211.name, by decide, Tryz.func211.trans (congrArg some (by kernel_rfl))⟩
  f50 := ⟨Tryz.f212.name, by decide, Tryz.func212.trans (congrArg some (by kernel_rfl))⟩
  f57 := ⟨Tryz.f230.name, by decide, Tryz.func230.trans (congrArg some (by kernel_rfl))⟩
  t0 := Tryz.underlying0
  a0 := Tryz.isAgg0
  z0 := Tryz.sizeOf0
  v0 := Tryz.zeroValue0
  t3 := Tryz.underlying3
  a3 := Tryz.isAgg3
  z3 := Tryz.sizeOf3
  v3 := Tryz.zeroValue3
  t4 := Tryz.underlying4
  a4 := Tryz.isAgg4
  z4 := Tryz.sizeOf4
  v4 := Tryz.zeroValue4
  t5 := Tryz.underlying5
  a5 := Tryz.isAgg5
  z5 := Tryz.sizeOf5
  v5 := Tryz.zeroValue5
  t9 := Tryz.underlying9
  a9 := Tryz.isAgg9
  z9 := Tryz.sizeOf9
  v9 := Tryz.zeroValue9
  t22 := Tryz.underlying41
  a22 := Tryz.isAgg41
  z22 := Tryz.sizeOf41
  v22 := Tryz.zeroValue41
  t25 := Tryz.underlying89
  a25 := Tryz.isAgg89
  z25 := Tryz.sizeOf89
  v25 := Tryz.zeroValue89
  t39 := Tryz.underlying172
  a39 := Tryz.isAgg172
  z39 := Tryz.sizeOf172
  v39 := Tryz.zeroValue172
  t45 := Tryz.underlying198
  a45 := Tryz.isAgg198
  z45 := Tryz.sizeOf198
  v45 := Tryz.zeroValue198
  t46 := Tryz.underlying199
  a46 := Tryz.isAgg199
  z46 := Tryz.sizeOf199
  v46 := Tryz.zeroValue199
  t50 := Tryz.underlying57
  a50 := Tryz.isAgg57
  z50 := Tryz.sizeOf57
  v50 := Tryz.zeroValue57
  t53 := Tryz.underlying22
  a53 := Tryz.isAgg22
  z53 := Tryz.sizeOf22
  v53 := Tryz.zeroValue22
  t55 := Tryz.underlying206
  a55 := Tryz.isAgg206
  z55 := Tryz.sizeOf206
  v55 := Tryz.zeroValue206
  t66 := Tryz.underlying228
  a66 := Tryz.isAgg228
  z66 := Tryz.sizeOf228
  v66 := Tryz.zeroValue228
  t70 := Tryz.underlying232
  a70 := Tryz.isAgg232
  z70 := Tryz.sizeOf232
  v70 := Tryz.zeroValue232
  t76 := Tryz.underlying249
  a76 := Tryz.isAgg249
  z76 := Tryz.sizeOf249
  v76 := Tryz.zeroValue249
  t77 := Tryz.underlying250
  a77 := Tryz.isAgg250
  z77 := Tryz.sizeOf250
  v77 := Tryz.zeroValue250 }

def encL (x : ByteArray × Int) : List Value := [.string x.1, .int .u32 x.2]
def cfE (x y : ByteArray × Int) : Int := bif ltP x y then -1 else bif ltP y x then 1 else 0
theorem lt_cfE (x y : ByteArray × Int) : ltOf cfE x y = ltP x y := by
  unfold ltOf cfE
  cases ltP x y <;> cases ltP y x <;> rfl
theorem swo_cfE : SWO (ltOf cfE) where
  irrefl x := by rw [lt_cfE]; exact ltP_irr x
  trans x y z h1 h2 := by
    rw [lt_cfE] at *
    exact ltP_trans h1 h2
  ntrans x y z h1 h2 := by
    rw [lt_cfE] at *
    cases h3 : ltP x z with
    | false => rfl
    | true =>
      cases h4 : ltP z y with
      | true => rw [ltP_trans h3 h4] at h1; cases h1
      | false => rw [← ltP_tot h2 h4, h1] at h3; cases h3
theorem tot_cfE (x y : ByteArray × Int) (h1 : ltOf cfE x y = false) (h2 : ltOf cfE y x = false) : x = y := by
  rw [lt_cfE] at h1 h2
  exact ltP_tot h1 h2
theorem sorted_bk {er : ByteArray → Int → Bool} {ft : Nat → ByteArray} {fc : Nat → Int} {m : Nat} {ss : List (ByteArray × Int)} (hn : ss.Nodup) (hm : ∀ z, z ∈ ss ↔ z ∈ bkL er ft fc m) : (ss.mergeSort fun x y => !ltOf cfE y x) = bkL er ft fc m := by
  have hp := List.mergeSort_perm ss fun x y => !ltOf cfE y x
  refine sort_uniq ?_ (sort_bkL er ft fc m) fun z => by rw [hp.mem_iff]; exact hm z
  have h1 : (ss.mergeSort fun x y => !ltOf cfE y x).Pairwise fun x y => (!ltOf cfE y x) = true := by
    refine List.pairwise_mergeSort (fun a b c h1 h2 => ?_) (fun a b => ?_) ss
    · rw [Bool.not_eq_true'] at *
      exact swo_cfE.ntrans c b a h2 h1
    · rw [lt_cfE, lt_cfE]
      cases h : ltP a b with
      | false => cases ltP b a <;> rfl
      | true =>
        cases h2 : ltP b a with
        | false => rfl
        | true => have := ltP_trans h h2; rw [ltP_irr] at this; cases this
  have h2 : (ss.mergeSort fun x y => !ltOf cfE y x).Pairwise fun x y => x ≠ y := (hp.nodup_iff).2 hn
  refine (List.pairwise_and_iff.2 ⟨h1, h2⟩).imp fun {x y} ⟨h3, h4⟩ => ?_
  rw [Bool.not_eq_true', lt_cfE] at h3
  cases h5 : ltP x y with
  | true => rfl
  | false => exact (h4 (ltP_tot h5 h3)).elim

end Go.Proofs.YtcadinbahmliiaaGreatDoor

/- The order of a book: cmp.Compare, cmp.Or and the closure that compares: trees. No conditions. -/
namespace Go.Proofs.YtcadinbahmliiaaGreatDoor
open Go.RowKit
set_option maxRecDepth 100000

end Go.Proofs.YtcadinbahmliiaaGreatDoor

/- The order of a book: what the comparing closure hands back, and how far the world has come. No conditions. -/
namespace Go.Proofs.YtcadinbahmliiaaGreatDoor
open Go.RowKit Go.Sort
set_option maxRecDepth 100000

def cuV (x y : Int) : Int := bif decide (x < y) then -1 else bif decide (x > y) then 1 else 0
def csV (s t : ByteArray) : Int := bif lessB s t then -1 else bif !(lessB s t || eqB s t) then 1 else 0
def orV (a b : Int) : Int := bif a != 0 then a else b
theorem cuV_lt {x y : Int} (h : x < y) : cuV x y = -1 := by simp [cuV, h]
theorem cuV_gt {x y : Int} (h : y < x) : cuV x y = 1 := by
  have h1 : ¬ x < y := by omega
  simp [cuV, h, h1]
theorem cuV_eq {x y : Int} (h : y ≤ x) (h2 : x ≤ y) : cuV x y = 0 := by
  have h1 : ¬ x < y := by omega
  have h3 : ¬ y < x := by omega
  simp [cuV, h1, h3]
set_option maxHeartbeats 2000000 in
theorem calls_nanU (x : Int) (w : World) : Calls Tryz.prog 91 #[.int .u32 x] w fun e w' => e = .returned (.bool false) ∧ w' = w := by
  have tB : Tryz.prog.underlying 4 = some .bool := by kernel_rfl
  have tU : Tryz.prog.underlying 22 = some (.int .u32) := by kernel_rfl
  have uB := run_underlying tB; have uU := run_underlying tU
  have mixed := mixed
  go_enter Tryz.func91, Tryz.ntmps91
  go_wp2
  go_ret
  simp

set_option maxHeartbeats 2000000 in
theorem calls_nanS (x : ByteArray) (w : World) : Calls Tryz.prog 92 #[.string x] w fun e w' => e = .returned (.bool false) ∧ w' = w := by
  have tB : Tryz.prog.underlying 4 = some .bool := by kernel_rfl
  have tS : Tryz.prog.underlying 9 = some .string := by kernel_rfl
  have uB := run_underlying tB; have uS := run_underlying tS
  have mixed := mixed
  go_enter Tryz.func92, Tryz.ntmps92
  go_wp2
  go_ret
  simp
set_option maxHeartbeats 4000000 in
theorem calls_cu (x y : Int) (w : World) : Calls Tryz.prog 53 #[.int .u32 x, .int .u32 y] w fun e w' => e = .returned (.int .i64 (cuV x y)) ∧ w' = w := by
  have tB : Tryz.prog.underlying 4 = some .bool := by kernel_rfl
  have tU : Tryz.prog.underlying 22 = some (.int .u32) := by kernel_rfl
  have tI : Tryz.prog.underlying 3 = some (.int .i64) := by kernel_rfl
  have uB := run_underlying tB; have uU := run_underlying tU; have uI := run_underlying tI
  have mixed := mixed
  have hN := calls_nanU
  go_enter Tryz.func53, Tryz.ntmps53
  go_wp2_with (go_at_call 91; refine (hN _ _).mono ?_; rintro e w' ⟨rfl, rfl⟩)
  · rename_i h
    rw [cuV_lt h]
    go_ret
    exact ⟨rfl, rfl⟩
  · rename_i h
    rw [cuV_gt h]
    go_ret
    exact ⟨rfl, rfl⟩
  · rename_i h1 h2
    rw [cuV_eq h1 h2]
    go_ret
    exact ⟨rfl, rfl⟩

theorem csV_lt {x y : ByteArray} (h : Op.bytesLess x.toList y.toList = true) : csV x y = -1 := by
  rw [csV, show lessB x y = true from h, cond_true]
theorem csV_gt {x y : ByteArray} (h : lessB x y = false) (h2 : eqB x y = false) : csV x y = 1 := by
  rw [csV, h, h2]
  rfl
theorem csV_eq {x y : ByteArray} (h : Op.bytesLess x.toList y.toList = false) (h2 : (!eqB x y) = false) : csV x y = 0 := by
  rw [Bool.not_eq_false'] at h2
  rw [csV, show lessB x y = false from h, h2]
  rfl
set_option maxHeartbeats 4000000 in
theorem calls_cs (x y : ByteArray) (w : World) : Calls Tryz.prog 54 #[.string x, .string y] w fun e w' => e = .returned (.int .i64 (csV x y)) ∧ w' = w := by
  have tB : Tryz.prog.underlying 4 = some .bool := by kernel_rfl
  have tS : Tryz.prog.underlying 9 = some .string := by kernel_rfl
  have tI : Tryz.prog.underlying 3 = some (.int .i64) := by kernel_rfl
  have uB := run_underlying tB; have uS := run_underlying tS; have uI := run_underlying tI
  have mixed := mixed
  have hN := calls_nanS
  have hgt : ∀ w, Sem.run Tryz.prog (binOp .gtr 9 (.string x) (.string y)) w = .ok (.bool (!(lessB x y || eqB x y))) w := fun w => by simp [eqGuard, binOp, Op.stringOp, beq_dec, eqB, lessB]
  go_enter Tryz.func54, Tryz.ntmps54
  go_wp2_with (go_at_call 92; refine (hN _ _).mono ?_; rintro e w' ⟨rfl, rfl⟩)
  · rename_i h
    rw [csV_lt h]
    go_ret
    exact ⟨rfl, rfl⟩
  · rename_i h
    rw [csV_gt (by simpa using h.1) (by simpa using h.2)]
    go_ret
    exact ⟨rfl, rfl⟩
  · rename_i h1 h2
    rw [csV_eq h1 (h2.resolve_left fun h => by rw [Bool.not_eq_false'] at h; rw [show lessB x y = false from h1] at h; cases h)]
    go_ret
    exact ⟨rfl, rfl⟩
set_option maxHeartbeats 4000000 in
theorem calls_or (a b : Int) (blk : Nat) (w : World) (h0 : w.cell? ⟨blk, 0, none⟩ = some (.int .i64 a)) (h1 : w.cell? ⟨blk, 1, none⟩ = some (.int .i64 b)) : Calls Tryz.prog 52 #[.slice (some ⟨blk, 0, none⟩) 2 2] w fun e w' => e = .returned (.int .i64 (orV a b)) ∧ w' = w := by
  have tB : Tryz.prog.underlying 4 = some .bool := by kernel_rfl
  have tI : Tryz.prog.underlying 3 = some (.int .i64) := by kernel_rfl
  have tL : Tryz.prog.underlying 133 = some (.slice 3) := by kernel_rfl
  have uB := run_underlying tB; have uI := run_underlying tI; have uL := run_underlying tL
  have mixed := mixed
  have aI := Tryz.isAgg3; have zI := Tryz.sizeOf3; have vI := Tryz.zeroValue3
  go_enter Tryz.func52, Tryz.ntmps52
  go_wp2
  refine wp_loop_rounds 3 ?_
  rw [rounds_succ]
  go_wp2
  · rename_i h
    rw [show orV a b = a by unfold orV; rw [h]; rfl]
    go_ret
    exact ⟨rfl, rfl⟩
  · rename_i h
    have eb : orV a b = b := by unfold orV; rw [h]; rfl
    rw [rounds_succ]
    go_wp2
    · go_ret
      rw [eb]
      exact ⟨rfl, rfl⟩
    · rename_i hb
      have hb0 : b = 0 := by simpa using hb
      subst hb0
      rw [rounds_succ]
      go_wp2
      go_ret
      rw [eb]
      exact ⟨rfl, rfl⟩

theorem less_or {s t : ByteArray} (h : lessB s t = false) : lessB t s = !eqB s t := by
  cases e : eqB s t with
  | true =>
    have := eqB_eq e
    subst this
    exact bl_irr _
  | false =>
    cases h2 : lessB t s with
    | true => rfl
    | false =>
      have h3 := bl_tot _ _ h h2
      rw [eqB, decide_eq_true h3] at e
      cases e
theorem cell_new2 (w : World) (a b : Value) (t : TypeId) : (w.alloc (.cells #[a, b] t)).cell? ⟨w.heap.size, 0, none⟩ = some a ∧ (w.alloc (.cells #[a, b] t)).cell? ⟨w.heap.size, 1, none⟩ = some b := by
  have h := World.alloc_heap_new w (.cells #[a, b] t)
  constructor
  · simp only [World.cell?]
    rw [h]
    rfl
  · simp only [World.cell?]
    rw [h]
    rfl
theorem or_cf (x y : ByteArray × Int) : orV (cuV x.2 y.2) (csV x.1 y.1) = cfE x y := by
  obtain ⟨s, c⟩ := x
  obtain ⟨t, d⟩ := y
  have key : ∀ s c t d, ltP (s, c) (t, d) = (bif c != d then decide (c < d) else lessB s t) := fun s c t d => rfl
  unfold cfE
  rw [key, key]
  simp only
  unfold orV cuV csV
  by_cases h1 : c < d
  · have h2 : (c != d) = true := bne_iff_ne.2 (by omega)
    simp [h1, h2]
  · by_cases h3 : d < c
    · have h2 : (c != d) = true := bne_iff_ne.2 (by omega)
      have h4 : (d != c) = true := bne_iff_ne.2 (by omega)
      simp [h1, h2, h3, h4]
    · have e : c = d := by omega
      subst e
      simp only [bne_self_eq_false, cond_false]
      cases h4 : lessB s t with
      | true => simp
      | false =>
        rw [less_or h4]
        cases eqB s t <;> simp
set_option maxHeartbeats 8000000 in
theorem calls_cf (x y : ByteArray × Int) (W : World) : Calls Tryz.prog 51 #[.agg #[.string x.1, .int .u32 x.2], .agg #[.string y.1, .int .u32 y.2]] W fun e w' => e = .returned (.int .i64 (cfE x y)) ∧ ∃ q os', w' = grow (W.drewN q) os' := by
  have tB : Tryz.prog.underlying 4 = some .bool := by kernel_rfl
  have tS : Tryz.prog.underlying 9 = some .string := by kernel_rfl
  have tU : Tryz.prog.underlying 22 = some (.int .u32) := by kernel_rfl
  have tI : Tryz.prog.underlying 3 = some (.int .i64) := by kernel_rfl
  have tL : Tryz.prog.underlying 133 = some (.slice 3) := by kernel_rfl
  have uB := run_underlying tB; have uS := run_underlying tS; have uU := run_underlying tU; have uI := run_underlying tI; have uL := run_underlying tL
  have uE := run_underlying Tryz.underlying27
  have aE := Tryz.isAgg27; have zE := Tryz.sizeOf27; have vE := Tryz.zeroValue27
  have aI := Tryz.isAgg3; have zI := Tryz.sizeOf3; have vI := Tryz.zeroValue3
  have aS := Tryz.isAgg9; have zS := Tryz.sizeOf9; have aU := Tryz.isAgg22; have zU := Tryz.sizeOf22
  have mixed := mixed
  obtain ⟨s, c⟩ := x
  obtain ⟨t, d⟩ := y
  have hu := calls_cu; have hs := calls_cs; have ho := calls_or
  rw [← or_cf]
  simp only []
  generalize hA : cuV c d = A
  generalize hB : csV s t = B
  have hu1 : ∀ w, Calls Tryz.prog 53 #[.int .u32 c, .int .u32 d] w fun e w' => e = .returned (.int .i64 A) ∧ w' = w := fun w => hA ▸ hu c d w
  have hs1 : ∀ w, Calls Tryz.prog 54 #[.string s, .string t] w fun e w' => e = .returned (.int .i64 B) ∧ w' = w := fun w => hB ▸ hs s t w
  clear hu hs hA hB
  go_enter Tryz.func51, Tryz.ntmps51
  go_wp2_with fail
  refine wp_region_same [] 10 mixed (fun _ _ _ _ _ h => panic_put h) (by kernel_rfl) rfl (fun hne => ?_)
  simp only [headFrom, List.elem_nil, Bool.false_eq_true, if_false, List.drop_succ_cons, List.drop_zero, List.filterMap_nil, List.foldl_nil]
  iterate 10
    apply sure_step hne rfl
    · intro w1 hb K hK
      subst hb
      go_wp2_with (first | (go_at_call 53; refine (hu1 _).mono ?_; rintro e w' ⟨rfl, rfl⟩) | (go_at_call 54; refine (hs1 _).mono ?_; rintro e w' ⟨rfl, rfl⟩))
      try rfl
    · rfl
  refine sure_nil ?_
  go_wp2_with (go_at_call 52; refine (ho A B _ _ (by simpa using (cell_new2 ((W.alloc (.cells #[.string s, .int .u32 c] 27)).alloc (.cells #[.string t, .int .u32 d] 27)) _ _ _).1) (by simpa using (cell_new2 ((W.alloc (.cells #[.string s, .int .u32 c] 27)).alloc (.cells #[.string t, .int .u32 d] 27)) _ _ _).2)).mono ?_; rintro e w' ⟨rfl, rfl⟩)
  go_ret
  exact ⟨rfl, 1, #[_, _, _], by rw [alloc_eq_grow, alloc_eq_grow, alloc_eq_grow, grow_grow, grow_grow]; rfl⟩

end Go.Proofs.YtcadinbahmliiaaGreatDoor

/- slices.SortedFunc over the keys of a map of entries; slices.Clip of none. Conditions: the map stands. -/
namespace Go.Proofs.YtcadinbahmliiaaGreatDoor
open Go.RowKit Go.Sort
set_option maxRecDepth 100000

set_option maxHeartbeats 2000000 in
theorem calls_collect {bm b n : Nat} {D0 : DataW Unit} (hN : Maps.size D0 ≤ 549755813888) (w : World) (hI : MapAt bm b n D0 (fun k => w.heap.size ≤ k) w) (htab : TabOk (fun k => w.heap.size ≤ k) w) :
    Calls Tryz.prog 88 #[.func (.func 90) #[] #[.pointer (some ⟨bm, 0, none⟩)]] w fun e w' => ∃ v ss, e = .returned v ∧ KeysE D0 ss ∧ OwnE w.heap.size v ss w' ∧ Fr (fun k => w.heap.size ≤ k) w w' := by
  have hcon := calls_aq hN w hI htab
  clear hI htab
  have mixed := mixed
  go_enter Tryz.func88, Tryz.ntmps88
  go_wp2_with (go_at_call 133; refine hcon.mono ?_; rintro e w' ⟨v, ss, rfl, h1, h2, h3⟩)
  go_ret
  exact ⟨v, ss, rfl, h1, h2, h3⟩
set_option maxHeartbeats 2000000 in
theorem calls_clip0 (w : World) : Calls Tryz.prog 55 #[.slice none 0 0] w fun e w' => e = .returned (.slice none 0 0) ∧ w' = w := by
  have tL : Tryz.prog.underlying 41 = some (.slice 27) := by kernel_rfl
  have tI : Tryz.prog.underlying 3 = some (.int .i64) := by kernel_rfl
  have uL := run_underlying tL; have uI := run_underlying tI
  have aE := Tryz.isAgg27; have zE := Tryz.sizeOf27
  have mixed := mixed
  go_enter Tryz.func55, Tryz.ntmps55
  go_wp2
  go_ret
  exact ⟨rfl, rfl⟩

end Go.Proofs.YtcadinbahmliiaaGreatDoor

/- slices.SortedFunc over the keys of a map of entries: the book's list. Conditions: the map stands. -/
namespace Go.Proofs.YtcadinbahmliiaaGreatDoor
open Go.RowKit Go.Sort
set_option maxRecDepth 100000

theorem sort_size (W : World) (blk n : Nat) (d : Array (ByteArray × Int)) (os : Array Obj) : W.heap.size ≤ (sortWorldK encL 2 W blk 0 n d os).heap.size := by
  unfold sortWorldK putRowK
  simp [grow]
theorem sort_at {W : World} {blk n : Nat} {l : List Value} {t : TypeId} {d : Array (ByteArray × Int)} {os : Array Obj} (hb : W.heap[blk]? = some (.cells (List.toArray l) t (0, 0))) :
    (sortWorldK encL 2 W blk 0 n d os).heap[blk]? = some (.cells (List.toArray (putCells id 0 (flatK encL 2 d) (List.toArray l)).toList) t (0, 0)) := by
  have hlt := (Array.getElem?_eq_some_iff.1 hb).1
  unfold sortWorldK putRowK
  rw [heap_grow_old _ _ (by simpa using hlt)]
  show ((Go.Sort.ahead W n).heap.modify blk _)[blk]? = _
  rw [Array.getElem?_modify, if_pos rfl, show (Go.Sort.ahead W n).heap[blk]? = _ from hb]
  rfl
theorem sort_other {W : World} {blk n k : Nat} {d : Array (ByteArray × Int)} {os : Array Obj} (hk : k < W.heap.size) (hne : k ≠ blk) : (sortWorldK encL 2 W blk 0 n d os).heap[k]? = W.heap[k]? := by
  unfold sortWorldK putRowK
  rw [heap_grow_old _ _ (by simpa using hk)]
  show ((Go.Sort.ahead W n).heap.modify blk _)[k]? = _
  rw [Array.getElem?_modify, if_neg (Ne.symm hne)]
  rfl
theorem flat_get (ss : List (ByteArray × Int)) {j k : Nat} (hj : j < ss.length) (hk : k < 2) : (flatK encL 2 ss.toArray)[j * 2 + k]? = (rowE (eT ss) (eC ss) j)[k]? := by
  have ht : j * 2 + k < ss.toArray.size * 2 := by rw [List.size_toArray]; omega
  have h := get_flatK encL 2 ss.toArray (j * 2 + k) ht
  have h2 : j * 2 + k < (flatK encL 2 ss.toArray).size := by rw [size_flatK]; exact ht
  rw [getElem!_pos (flatK encL 2 ss.toArray) _ h2] at h
  rw [Array.getElem?_eq_getElem h2, h, show (j * 2 + k) / 2 = j by omega, show (j * 2 + k) % 2 = k by omega]
  have e : ss.toArray[j]! = ss[j] := by
    rw [getElem!_pos ss.toArray j (by rw [List.size_toArray]; exact hj)]
    rfl
  rw [e, ← eTC ss j hj]
  match k, hk with
  | 0, _ => rfl
  | 1, _ => rfl
theorem holds_own {W : World} {blk cap : Nat} {l : List Value} {ss : List (ByteArray × Int)} (hb : W.heap[blk]? = some (.cells (List.toArray l) 27 (0, 0))) (hl : l.length = cap * 2) (hc : ss.length ≤ cap) (hr : ∀ j, j < ss.length → ∀ k, k < 2 → l[j * 2 + k]? = (rowE (eT ss) (eC ss) j)[k]?) : HoldsK encL 2 W blk 0 ss.toArray := by
  intro t ht
  rw [size_flatK, List.size_toArray] at ht
  have e := flat_get ss (j := t / 2) (k := t % 2) (by omega) (by omega)
  have e2 := hr (t / 2) (by omega) (t % 2) (by omega)
  rw [show t / 2 * 2 + t % 2 = t by omega] at e e2
  have h2 : t < (flatK encL 2 ss.toArray).size := by rw [size_flatK, List.size_toArray]; exact ht
  constructor
  · simp only [World.cell?, hb, Nat.zero_add, Option.isSome_none, Bool.false_eq_true, if_false, List.getElem?_toArray]
    rw [e2, ← e, getElem!_pos (flatK encL 2 ss.toArray) t h2, Array.getElem?_eq_getElem h2]
    rfl
  · simp [World.frozen?, hb]
theorem own_sorted {base : Nat} {W : World} {blk cap n : Nat} {l : List Value} {L : List (ByteArray × Int)} {os : Array Obj} (hb : W.heap[blk]? = some (.cells (List.toArray l) 27 (0, 0))) (hbase : base ≤ blk) (hl : l.length = cap * 2) (hm : cap ≤ maxLen) (hc : L.length ≤ cap) (hne : L ≠ []) :
    OwnE base (.slice (some ⟨blk, 0, none⟩) L.length cap) L (sortWorldK encL 2 W blk 0 n L.toArray os) := by
  refine .inr ⟨hne, blk, cap, _, rfl, hbase, sort_at hb, ?_, hm, hc, fun j hj k hk => ?_⟩
  · rw [Array.length_toList]
    simp [putCells, hl]
  · rw [Array.getElem?_toList]
    have h1 : j * 2 + k < 0 + (flatK encL 2 L.toArray).size := by rw [size_flatK, List.size_toArray]; omega
    have h3 : j * 2 + k < (flatK encL 2 L.toArray).size := by omega
    have h2 : j * 2 + k < l.length := by omega
    unfold putCells
    rw [Array.getElem?_mapIdx, List.getElem?_toArray, List.getElem?_eq_getElem h2, Option.map_some, if_pos ⟨Nat.zero_le _, h1⟩, Nat.sub_zero, ← flat_get L hj hk, getElem!_pos (flatK encL 2 L.toArray) _ h3, Array.getElem?_eq_getElem h3]
    rfl

theorem enters_cf : ∀ args w, (callFunc 51 args).run Tryz.prog w = .ok (.enter 51 args) w := fun args w => enters _ _ Tryz.func51 rfl args w
set_option maxHeartbeats 4000000 in
theorem calls_sorted {bm b n : Nat} {D0 : DataW Unit} (hN : Maps.size D0 ≤ 549755813888) (w : World) (hI : MapAt bm b n D0 (fun k => w.heap.size ≤ k) w) (htab : TabOk (fun k => w.heap.size ≤ k) w) {er : ByteArray → Int → Bool} {ft : Nat → ByteArray} {fc : Nat → Int} {m : Nat} (hm : ∀ z, hasE D0 z ↔ z ∈ bkL er ft fc m) (h62 : m < 4611686018427387904) :
    Calls Tryz.prog 49 #[.func (.func 90) #[] #[.pointer (some ⟨bm, 0, none⟩)], .func (.func 51) #[] #[]] w fun e w' => ∃ v, e = .returned v ∧ OwnE w.heap.size v (bkL er ft fc m) w' ∧ Fr (fun k => w.heap.size ≤ k) w w' := by
  have hcol := calls_collect hN w hI htab
  clear hI htab
  have mixed := mixed
  go_enter Tryz.func49, Tryz.ntmps49
  go_wp2_with (go_at_call 88; refine hcol.mono ?_; rintro e W ⟨v, ss, rfl, hk, hown, hfr⟩)
  have hL := sorted_bk (er := er) (ft := ft) (fc := fc) (m := m) hk.1 fun z => (hk.2 z).trans (hm z)
  have hlen : ss.length = (bkL er ft fc m).length := by rw [← hL]; exact (List.mergeSort_perm ss _).length_eq.symm
  have hbk := bkL_len er ft fc m
  rcases hown with ⟨rfl, rfl⟩ | ⟨hne, blk, cap, l, rfl, hbase, hb, hl, hmx, hc, hr⟩
  · have hcon := AnyF.slices_SortFunc_none Tryz.laysSort none 0 (.func (.func 51) #[] #[]) W
    change Calls Tryz.prog 89 _ _ _ at hcon
    go_wp2_with (go_at_call 89; refine hcon.mono ?_; rintro e w' ⟨rfl, rfl⟩)
    go_ret
    exact ⟨_, rfl, .inl ⟨List.eq_nil_of_length_eq_zero hlen.symm, rfl⟩, hfr⟩
  · have hblk : blk < W.heap.size := (Array.getElem?_eq_some_iff.1 hb).1
    have hcon := AnyQ.slices_SortFunc_total Tryz.laysSort 2 Tryz.isAgg27 Tryz.sizeOf27 encL (fun _ => rfl) (fun x v hv => by simp [encL] at hv; rcases hv with rfl | rfl <;> rfl) cfE swo_cfE 51 #[] blk 0 cap ss.toArray W enters_cf (fun _ _ _ _ x y => calls_cf x y _) (holds_own hb hl hc hr) hblk (by rw [List.size_toArray]; omega) tot_cfE
    change Calls Tryz.prog 89 _ _ _ at hcon
    rw [hL, List.size_toArray] at hcon
    have hwb : w.heap.size ≤ W.heap.size := hfr.size
    go_wp2_with (go_at_call 89; refine hcon.mono ?_; rintro e w' ⟨rfl, nn, os, rfl⟩)
    go_ret
    refine ⟨_, rfl, ?_, hfr.trans ⟨rfl, rfl, rfl, sort_size _ _ _ _ _, fun k hk hk' => sort_other hk (by omega)⟩⟩
    show OwnE _ (.slice (some ⟨blk, 0, none⟩) (bkL er ft fc m).length cap) _ _
    exact own_sorted hb hbase hl hmx (by omega) fun e => hne (List.eq_nil_of_length_eq_zero (by rw [hlen, e]; rfl))

end Go.Proofs.YtcadinbahmliiaaGreatDoor

/- The program's BookSort: the walk. Conditions: entries, at most fifty. -/
namespace Go.Proofs.YtcadinbahmliiaaGreatDoor
open Go.RowKit
set_option maxRecDepth 100000

def FcqN : List Value → Option (Value × List Bool)
  | [.slice none 0 0] => some (.slice none 0 0, [])
  | _ => none
theorem ok_cqN : SpecOk Tryz.prog 55 (specV FcqN) := by
  refine specV_ok (fun args w => enters 55 Tryz.f55 Tryz.func55 rfl args w) fun vs x ob hF ho w ht => ?_
  unfold FcqN at hF
  split at hF
  · simp only [Option.some.injEq, Prod.mk.injEq] at hF
    obtain ⟨rfl, rfl⟩ := hF
    refine (calls_clip0 w).mono ?_
    rintro e w' ⟨rfl, rfl⟩
    exact ⟨rfl, Fr.refl _ _⟩
  · cases hF
def gmCq : Gam := ext g0 55 (specV FcqN)
theorem gmCq_ok : GamOk Tryz.prog gmCq := ext_ok g0_ok ok_cqN
theorem trKm (m : Nat) (ft : Nat → ByteArray) (fc : Nat → Int) : execC Tryz.prog gmCq 100 noLam kRz (kTz (.v (.slice none 0 0))) (hpB m ft fc) (finC Tryz.prog fBk fun av H' => .out .ret [av] H')
    = Res.out .ret [AV.tup [AV.v (Value.slice none (0 : Nat) (0 : Nat)), AV.v (.bool true)]] (hpB m ft fc) := by kernel_rfl

set_option maxHeartbeats 2000000 in
theorem calls_keys (mb : Option Nat) (w : World) : Calls Tryz.prog 50 #[.map mb] w fun e w' => e = .returned (.func (.func 90) #[] #[.pointer (some ⟨w.heap.size, 0, none⟩)]) ∧ w' = w.alloc (.cells #[.map mb] 81) := by
  have tM : Tryz.prog.underlying 81 = some (.map 27 4) := by kernel_rfl
  have uM := run_underlying tM
  have aM := Tryz.isAgg81; have zM := Tryz.sizeOf81
  have mixed := mixed
  go_enter Tryz.func50, Tryz.ntmps50
  go_wp2
  go_ret
  exact ⟨rfl, rfl⟩

theorem own_size {X : World} {b n : Nat} {D : DataW Unit} (h : OwnM X b n D) : Maps.size D ≤ n := by
  obtain ⟨es, clock, hb, F, hs, rfl⟩ := h
  rw [Maps.size, length_sorted]
  simpa using hs

def lkB (m : Nat) (ft : Nat → ByteArray) (fc : Nat → Int) : List (ByteArray × Int) := bkL erB ft fc m
def qBk (m : Nat) (ft : Nat → ByteArray) (fc : Nat → Int) : Ex → List AV → List AB → Prop := fun _ l H' =>
  (lkB m ft fc = [] ∧ l = [.tup [.v (.slice none 0 0), .v (.bool true)]] ∧ H' = hpB m ft fc) ∨
  (lkB m ft fc ≠ [] ∧ l = [.tup [.sl 1 2 0 0 (lkB m ft fc).length (some (lkB m ft fc).length), .v (.bool true)]] ∧ H' = [.row false m 2 (rowE ft fc) 27, .row true (lkB m ft fc).length 2 (rowE (eT (lkB m ft fc)) (eC (lkB m ft fc))) 27])
abbrev fnKw (b : Nat) : Value := .func (.func 90) #[] #[.pointer (some ⟨b, 0, none⟩)]

theorem walk_bk {m : Nat} {ft : Nat → ByteArray} {fc : Nat → Int} (hm : m ≤ 50) (M : Nat → Prop) (vals : List Value) (w : World) (ν : Nu) (hM : ∀ k, w.heap.size ≤ k → M k) (hv : VRs ν [lsA m] vals) (hR : RH M ν (fun b => (hpB m ft fc).getD b .gone) w) (hdom : ∀ i b, ν i = some b → i < 1) :
    Calls Tryz.prog 22 vals.toArray w (RetG (qBk m ft fc) M ν w) := by
  rw [← callsIn_wide (n := 1), ← wideR_none]
  refine callsIn_of_wp Tryz.func22 bodyBk trivial ?_
  have hst := start_sr (fn := fBk) hv hR hdom
  rw [show fBk.ntmps - [lsA m].length = 27 from by kernel_rfl] at hst
  refine wpIn_seq (pieceL g0_ok hM hdom (T' := kT0 m) (H' := hpB m ft fc) (lv := lv3 [0] [] []) (by kernel_rfl) hst rfl (by rw [trK0]; exact ⟨rfl, rfl, rfl⟩) fun A1 X1 ν1 hS1 hd1 _ _ => ?_)
  show (Code.seq (.seq kR1 _) _).wpIn (wideR none) 1 Tryz.prog _ A1 X1
  refine wpIn_seq (wpIn_seq (pieceL g0_ok hM hdom (T' := kT1 m (decide ((m : Int) > 50))) (H' := hpB m ft fc) (lv := lv3 [0, 10] [] []) (by kernel_rfl) hS1 hd1 (by rw [trK1]; exact ⟨rfl, rfl, rfl⟩) fun A2 X2 ν2 hS2 hd2 _ _ => ?_))
  rw [show decide ((m : Int) > 50) = false from decide_eq_false (by omega)] at hS2
  show (Code.cond (.tmp 10) kR2 .skip).wpIn (wideR none) 1 Tryz.prog _ A2 X2
  refine wpIn_cond_false (hS2.at (z := .tmp 10) rfl) (wpIn_skip ?_)
  show (Code.seq (.region 3 kO3 false) _).wpIn (wideR none) 1 Tryz.prog _ A2 X2
  refine wpIn_seq (wpIn_region ?_)
  rw [k3_r, wpOpsIn_cons]
  refine op_value k3_0 k3_0o.2.1 (run_mk k3_0o.1) ?_
  rw [k3_0o.2.2]
  have hS3 := hS2.step hM (World.grownBy_alloc X2 (.map #[] 0) none) (fun r e => by cases e) (dst := some 11) (x := .map (some X2.heap.size)) rfl
  have hb : w.heap.size ≤ X2.heap.size := hS2.fr.size
  have hown0 : OwnM (X2.alloc (.map #[] 0)) X2.heap.size 0 (.map []) := World.ownsMap_made X2 _ _ _
  generalize X2.heap.size = b at *
  rw [wpOpsIn_cons]
  refine opL g0_ok hM k3_1 k3_1o.2.1 (by rw [k3_1o.1]; simp) (v := .v (.map (some b))) (ob := []) (T' := ((kT1 m false).set 11 (.v (.map (some b)))).set 4 (.v (.map (some b)))) (by kernel_rfl) rfl (by kernel_rfl) (by kernel_rfl) hS3 fun A4 X4 ν4 hS4 hd4 hk4 => ?_
  have hS5 : SR M w ν (kT3 m b) (hpB m ft fc) A4 X4 ν4 := hS4.less rfl (mask_less (live := [0, 4]) (by kernel_rfl)) rfl fun _ => .inl rfl
  have hd5 : A4.defers = [] := hd4.trans ((put_defers' ..).trans hd2)
  show (Code.seq (.seq kR4 (.block 0 (.loop kL))) _).wpIn (wideR none) 1 Tryz.prog _ A4 X4
  refine wpIn_seq (walk1 hm hM hdom hS5 hd5 hb (own_keep hown0 hk4) fun A6 X6 ν6 D hS6 hd6 hown6 hD => ?_)
  clear hS1 hS2 hS3 hS4 hS5 hst hd1 hd2 hd4 hd5 hk4 hown0
  show (Code.seq (.region 10 kO10 false) kRz).wpIn (wideR none) 1 Tryz.prog _ A6 X6
  refine wpIn_seq (wpIn_region ?_)
  rw [k10_r, wpOpsIn_cons]
  refine opL g0_ok hM k10_0 k10_0o.2.1 (by rw [k10_0o.1]; simp) (v := .v (.map (some b))) (ob := []) (T' := (kT5 m b m (decide ((m : Int) < m))).set 23 (.v (.map (some b)))) (by kernel_rfl) rfl (by kernel_rfl) (by kernel_rfl) hS6 fun A7 X7 ν7 hS7 hd7 hk7 => ?_
  have hown7 := own_keep hown6 hk7
  rw [wpOpsIn_cons]
  refine op_call k10_1 k10_1o.2.1 (run_cl1 k10_1o.1 (hS7.at (z := .tmp 23) rfl) (fun args w => enters _ _ Tryz.func50 rfl args w)) (calls_keys (some b) X7) ?_
  rintro e X8 ⟨rfl, hX8⟩
  refine ⟨_, rfl, ?_⟩
  rw [k10_1o.2.2, wpOpsIn_cons]
  have hS8 := hS7.step hM (World.grownBy_alloc X7 (.cells #[.map (some b)] 81) none) (fun r e => by cases e) (dst := some 24) (x := fnKw X7.heap.size) rfl
  have hown8 : OwnM (X7.alloc (.cells #[.map (some b)] 81)) b m D := hown7.alloc _
  have hbox : (X7.alloc (.cells #[.map (some b)] 81)).cell? ⟨X7.heap.size, 0, none⟩ = some (.map (some b)) := by
    have h := World.alloc_heap_new X7 (.cells #[.map (some b)] 81)
    simp only [World.cell?]
    rw [h]
    rfl
  have hbm : X7.heap.size < (X7.alloc (.cells #[.map (some b)] 81)).heap.size := by simp
  rw [← hX8] at hS8 hown8 hbox hbm
  clear hX8
  generalize X7.heap.size = bm at *
  have htab : TabOk (fun k => X8.heap.size ≤ k) X8 := hS8.heap.tab.mono fun k _ hk => hM k (Nat.le_trans hS8.fr.size hk)
  have hlt8 := hown8.lt
  refine op_call k10_2 k10_2o.2.1 (run_cl2 k10_2o.1 (hS8.at (z := .tmp 24) rfl) (fun args w => enters _ _ Tryz.func49 rfl args w)) (calls_sorted (Nat.le_trans (own_size hown8) (by omega)) X8 ⟨hbm, hbox, hown8, by omega, by omega⟩ htab hD (by omega)) ?_
  rintro e X9 ⟨v, rfl, hown9, hfr9⟩
  refine ⟨_, rfl, ?_⟩
  rw [k10_2o.2.2, wpOpsIn_cons]
  have fin : ∀ (A : Act) (X : World) (ν' : Nu) (T : List AV) (H : List AB), SR M w ν T H A X ν' → A.defers = [] → ∀ Γ, GamOk Tryz.prog Γ → (execC Tryz.prog Γ 100 noLam kRz T H (finC Tryz.prog fBk fun av H' => .out .ret [av] H')).ok (qBk m ft fc) → kRz.wpIn (wideR none) 1 Tryz.prog (bodyPost Tryz.prog fBk (RetG (qBk m ft fc) M ν w)) A X :=
    fun A X ν' T H hS hd Γ hΓ hr => pieceG hΓ hM (by kernel_rfl) hr hS hd fun e A' X' hp _ _ => fin_post hp
  have hd9 : ((A7.put (some 24) (fnKw bm)).put (some 25) v).defers = [] := (put_defers' ..).trans ((put_defers' ..).trans (hd7.trans hd6))
  rcases hown9 with ⟨he, rfl⟩ | ⟨hne, blk, cap, l, rfl, hbase, hb9, hl, hmx, hc, hr⟩
  · have hg9 : X8.grownBy X9 none := ⟨hfr9.os, hfr9.tape, hfr9.output, hfr9.size, fun k hk _ => hfr9.block k hk (by omega)⟩
    have hS9 := hS8.step hM hg9 (fun r e => by cases e) (dst := some 25) (x := .slice none 0 0) rfl
    refine opL g0_ok hM k10_3 k10_3o.2.1 (by rw [k10_3o.1]; simp) (v := .v (.slice none 0 0)) (ob := []) (by kernel_rfl) rfl (by kernel_rfl) rfl hS9 fun A10 X10 ν10 hS10 hd10 _ => ?_
    have hS11 : SR M w ν (kTz (.v (.slice none 0 0))) (hpB m ft fc) A10 X10 ν10 := hS10.less (by kernel_rfl) (mask_less (live := [7]) (by kernel_rfl)) rfl fun _ => .inl rfl
    show kRz.wpIn (wideR none) 1 Tryz.prog (bodyPost Tryz.prog fBk (RetG (qBk m ft fc) M ν w)) A10 X10
    exact fin A10 X10 ν10 _ _ hS11 (hd10.trans hd9) gmCq gmCq_ok (by rw [trKm]; exact .inl ⟨he, rfl, rfl⟩)
  · have hν1 : ν7 1 = none := by
      cases h : ν7 1 with
      | none => rfl
      | some b => exact absurd (hS8.dom 1 b h) (by simp)
    have hX : ∀ i b, ν7 i = some b → b.n < X8.heap.size := hS8.heap.lt
    obtain ⟨L, hL⟩ : ∃ L, bkL erB ft fc m = L := ⟨_, rfl⟩
    simp only [hL] at hne hc hr hd9 ⊢
    have h01 : upd ν7 1 ⟨blk, 0, cap⟩ 0 = ν7 0 := by simp [upd]
    have hup : ∀ i b, upd ν7 1 ⟨blk, 0, cap⟩ i = some b → (i = 1 ∧ b = ⟨blk, 0, cap⟩) ∨ (i ≠ 1 ∧ ν7 i = some b) := fun i b h => by
      unfold upd at h
      split at h
      · cases h
        exact .inl ⟨by assumption, rfl⟩
      · exact .inr ⟨by assumption, h⟩
    have hle : Le ν7 (upd ν7 1 ⟨blk, 0, cap⟩) := fun i b h => by
      by_cases e : i = 1
      · subst e; rw [hν1] at h; cases h
      · simpa [upd, e] using h
    have hRH9 : RH M (upd ν7 1 ⟨blk, 0, cap⟩) (fun b => ([.row false m 2 (rowE ft fc) 27, .row true L.length 2 (rowE (eT L) (eC L)) 27] : List AB).getD b .gone) X9 := by
      refine ⟨fun i => ?_, fun i j b b' hij hw hlv hb hb' => ?_, fun i b hw hb => ?_, fun i b hb => ?_, hS8.heap.tab.fr (hfr9.mono fun k _ hk => hM k (Nat.le_trans hS8.fr.size hk))⟩
      · match i with
        | 0 =>
          have := (hS8.heap.br 0).of_block (w' := X9) fun k hk _ => hfr9.block _ (hX 0 k hk) (by have := hX 0 k hk; omega)
          rcases this with ⟨a, b, c⟩ | ⟨b, l', t', fz, e, rest⟩
          · exact .inl ⟨a, b, h01.trans c⟩
          · exact .inr ⟨b, l', t', fz, h01.trans e, rest⟩
        | 1 => exact .inr ⟨⟨blk, 0, cap⟩, l, 27, (0, 0), upd_same _ _ _, hb9, fun _ => ⟨rfl, rfl, rfl, hl, hmx⟩, hc, fun j hj => ⟨⟨rfl, by simp [rowE, Value.oneCell']⟩, fun k hk => by rw [Nat.zero_add]; exact hr j hj k hk⟩⟩
        | i + 2 => trivial
      · rcases hup i b hb with ⟨rfl, rfl⟩ | ⟨h1, h2⟩
        · rcases hup j b' hb' with ⟨rfl, _⟩ | ⟨_, h4⟩
          · exact absurd rfl hij
          · have := hX j b' h4
            show blk ≠ b'.n
            omega
        · have := hS8.dom i b h2
          have : i = 0 := by simp at this; omega
          subst this
          cases hw
      · rcases hup i b hb with ⟨rfl, rfl⟩ | ⟨h1, h2⟩
        · exact hM _ (Nat.le_trans hS8.fr.size hbase)
        · have := hS8.dom i b h2
          have : i = 0 := by simp at this; omega
          subst this
          cases hw
      · rcases hup i b hb with ⟨rfl, rfl⟩ | ⟨h1, h2⟩
        · exact (Array.getElem?_eq_some_iff.1 hb9).1
        · exact Nat.lt_of_lt_of_le (hX i b h2) hfr9.size
    have hS9 := SR.put hS8 (dst := some 25) (x := .own 1 L.length) (v := .slice (some ⟨blk, 0, none⟩) L.length cap) rfl hle (by simp only [VR]; exact ⟨_, upd_same _ _ _, rfl⟩) hRH9 (hS8.fr.trans (hfr9.mono fun k _ hk => hM k (Nat.le_trans hS8.fr.size hk))) (fun i b hb => by
      rcases hup i b hb with ⟨rfl, rfl⟩ | ⟨h1, h2⟩
      · exact (by decide : 1 < 2)
      · have := hS8.dom i b h2
        simp at this ⊢
        omega)
    refine opL g0_ok hM k10_3 k10_3o.2.1 (by rw [k10_3o.1]; simp) (v := .own 1 L.length) (ob := []) (by kernel_rfl) rfl (by kernel_rfl) rfl hS9 fun A10 X10 ν10 hS10 hd10 _ => ?_
    have hS11 : SR M w ν (kTz (.own 1 L.length)) [.row false m 2 (rowE ft fc) 27, .row true L.length 2 (rowE (eT L) (eC L)) 27] A10 X10 ν10 := hS10.less (by kernel_rfl) (mask_less (live := [7]) (by kernel_rfl)) rfl fun _ => .inl rfl
    show kRz.wpIn (wideR none) 1 Tryz.prog (bodyPost Tryz.prog fBk (RetG (qBk m ft fc) M ν w)) A10 X10
    refine fin A10 X10 ν10 _ _ hS11 (hd10.trans hd9) g0 g0_ok ?_
    rw [trKz, show Int.toNat ((L.length : Int) - 0) = L.length by omega]
    refine needs_mk (by simp only [ob_cons, ob_nil, and_true, decide_eq_true_eq, ble_me]; omega) (.inr ?_)
    rw [show lkB m ft fc = L from hL]
    exact ⟨hne, rfl, rfl⟩

end Go.Proofs.YtcadinbahmliiaaGreatDoor

/- The program's BookSort: its two words. Conditions: entries. -/
namespace Go.Proofs.YtcadinbahmliiaaGreatDoor
open Go.RowKit
set_option maxRecDepth 100000

theorem trKo (m n : Nat) (ft : Nat → ByteArray) (fc : Nat → Int) (t : TypeId) : execF Tryz.prog g0 noLam 100 fBk [.own 0 m] [.row true n 2 (rowE ft fc) t] (packK 1)
    = needs [decide ((m : Int) > (50 : Int))] (Res.out .ret [AV.tup [AV.v (Value.slice none (0 : Nat) (0 : Nat)), AV.v (.bool false)]] [AB.row true n 2 (rowE ft fc) t]) := by kernel_rfl

theorem RH.new {M : Nat → Prop} {ν : Nu} {H : Nat → AB} {w w' : World} (h : RH M ν H w) (hM : ∀ k, w.heap.size ≤ k → M k) (hf : Fr (fun k => w.heap.size ≤ k) w w') : RH M ν H w' :=
  ⟨fun i => (h.br i).of_block fun k hk _ => hf.block _ (h.lt i k hk) (by have := h.lt i k hk; omega), h.sep, h.own, fun i b hb => Nat.lt_of_lt_of_le (h.lt i b hb) hf.size, h.tab.fr (hf.mono fun k _ hk => hM k hk)⟩
theorem ok_bsIY : SpecOk Tryz.prog 22 (specR md_bs (FbiY bsL)) := by
  refine specR_calls enters Tryz.func22 (by kernel_rfl) fun sas fr hF ho => ?_
  unfold FbiY at hF
  split at hF
  · rename_i m g
    cases hF
    simp only [ob_cons] at ho
    obtain ⟨h1, h2, _⟩ := ho
    rw [Nat.blt_eq] at h2
    have hm : m ≤ 50 := by
      by_cases c : m > 50
      · rw [show bsL m (itT g) (itC g) = [] by rw [bsL, decide_eq_true c]; rfl] at h2
        exact absurd h2 (Nat.lt_irrefl 0)
      · omega
    have e : bsL m (itT g) (itC g) = lkB m (itT g) (itC g) := by rw [bsL, decide_eq_false (by omega)]; rfl
    refine ⟨hpB m (itT g) (itC g), .cons (ABeq.row fun j hj => allE_get h1 j hj) .nil, fun M vals w ν hM hv hR hdom => ?_⟩
    refine (walk_bk (ft := itT g) (fc := itC g) hm M vals w ν hM hv hR hdom).mono ?_
    rintro e' w' ⟨v, av, H', ν', rfl, hq, rest⟩
    refine ⟨v, av, H', ν', rfl, ?_, rest⟩
    simp only [e] at h2 ⊢
    rcases hq with ⟨he, _⟩ | ⟨_, hav, rfl⟩
    · rw [he] at h2
      exact absurd h2 (Nat.lt_irrefl 0)
    · simp only [List.cons.injEq, and_true] at hav
      subst hav
      exact ⟨_, rfl, rfl, .cons (ABeq.row fun j hj => (allE_get h1 j hj).symm) (Hsim.refl _)⟩
  · cases hF
theorem walk_no {m : Nat} {ft : Nat → ByteArray} {fc : Nat → Int} (hm : m ≤ 50) (hn : lkB m ft fc = []) {M : Nat → Prop} {v : Value} {w : World} {ν : Nu} {H : Nat → AB} (hM : ∀ k, w.heap.size ≤ k → M k) (hR : RH M ν H w) {ν2 : Nu} (hv : VRs ν2 [lsA m] [v]) (hbr : BR ν2 0 (.row false m 2 (rowE ft fc) 27) w) (hlt : ∀ i b, ν2 i = some b → b.n < w.heap.size ∧ i < 1) :
    Calls Tryz.prog 22 #[v] w fun e w' => e = .returned (.tuple #[.slice none 0 0, .bool true]) ∧ RH M ν H w' ∧ Fr M w w' := by
  have htab : TabOk (fun k => w.heap.size ≤ k) w := hR.tab.mono fun k _ hk => hM k hk
  refine (walk_bk (ft := ft) (fc := fc) hm (fun k => w.heap.size ≤ k) [v] w ν2 (fun _ hk => hk) hv ⟨fun i => ?_, fun i j b b' _ hw => ?_, fun i b hw => ?_, fun i b hb => (hlt i b hb).1, htab⟩ fun i b hb => (hlt i b hb).2).mono ?_
  · match i with
    | 0 => exact hbr
    | i + 1 => trivial
  · match i with
    | 0 => cases hw
    | i + 1 => cases hw
  · match i with
    | 0 => cases hw
    | i + 1 => cases hw
  · rintro e w' ⟨v', av, H', ν', rfl, hq, hvr, _, hfr, _, _⟩
    rcases hq with ⟨_, hav, _⟩ | ⟨hne, _⟩
    · simp only [List.cons.injEq, and_true] at hav
      subst hav
      simp only [VR] at hvr
      obtain ⟨l, rfl, hl⟩ := hvr
      match l, hl with
      | [y1, y2], hl =>
        simp only [VRs, VR, and_true] at hl
        obtain ⟨rfl, rfl⟩ := hl
        exact ⟨rfl, hR.new hM hfr, hfr.mono fun k _ hk => hM k hk⟩
    · exact (hne hn).elim
theorem ok_bsIN : SpecOk Tryz.prog 22 (specQ [] (FbiN bsL)) := by
  refine specQ_calls Tryz.func22 (by kernel_rfl) fun avs H kr hF ho => ?_
  unfold FbiN at hF
  split at hF
  · rename_i m m' g t
    cases hF
    simp only [ob_cons] at ho
    obtain ⟨h1, h2, h3, _⟩ := ho
    have h1 := Nat.le_of_ble_eq_true h1
    have h3 := Nat.eq_of_beq_eq_true h3
    by_cases c : m > 50
    · refine ⟨[.row true m' 2 (rowE (itT g) (itC g)) t], .cons (ABeq.row fun j hj => allE_get h2 j hj) .nil, fun M vals w ν hM hv hR hdom => ?_⟩
      refine (calls_pack (Λ := noLam) (n := 100) (Q := GivQ { val := .tup [.v (.slice none 0 0), .v (.bool (!decide (m > 50)))], obl := [Nat.ble m m', allE m' g, Nat.beq (bsL m (itT g) (itC g)).length 0] } [.row true m' 2 g t]) g0_ok mixed enters Tryz.func22 (noLam' _) hM ?_ hv hR hdom).mono fun _ _ h => h
      show (execF Tryz.prog g0 noLam 100 fBk [.own 0 m] [.row true m' 2 (rowE (itT g) (itC g)) t] (packK 1)).ok _
      rw [trKo]
      refine needs_mk (by simp only [ob_cons, ob_nil, and_true, decide_eq_true_eq]; omega) ⟨?_, .cons (ABeq.row fun j hj => (allE_get h2 j hj).symm) .nil⟩
      rw [decide_eq_true c]
      rfl
    · have hn : lkB m (itT g) (itC g) = [] := by
        rw [← List.length_eq_zero_iff, ← h3, bsL, decide_eq_false c]
        rfl
      refine ⟨[.row true m' 2 (rowE (itT g) (itC g)) t], .cons (ABeq.row fun j hj => allE_get h2 j hj) .nil, fun M vals w ν hM hv hR hdom => ?_⟩
      match vals, hv with
      | [v], hv =>
        simp only [VRs, VR, and_true] at hv
        obtain ⟨b, e1, rfl⟩ := hv
        rcases hR.br 0 with ⟨h, _⟩ | ⟨b2, l, t', fz, e2, e3, e4, e5, e6⟩
        · cases h
        · rw [e1] at e2
          cases e2
          refine (walk_no (m := m) (ft := itT g) (fc := itC g) (by omega) hn hM hR (ν2 := fun i => if i = 0 then some b else none) (by simp only [VRs, VR, and_true]; exact ⟨_, _, rfl, (fun c' h => by cases h), by omega, fun _ => ⟨b, by simp, by simp⟩⟩) (.inr ⟨b, l, t', fz, by simp, e3, (fun h => by cases h), by omega, fun j hj => e6 j (by omega)⟩) (fun i b' hb => ?_)).mono ?_
          · have : i = 0 := by
              by_cases e : i = 0
              · exact e
              · simp [e] at hb
            subst this
            simp at hb
            subst hb
            exact ⟨hR.lt 0 b e1, Nat.one_pos⟩
          · rintro e w' ⟨rfl, hR', hfr⟩
            refine ⟨_, .tup [.v (.slice none 0 0), .v (.bool true)], _, ν, rfl, ⟨?_, .cons (ABeq.row fun j hj => (allE_get h2 j hj).symm) .nil⟩, ?_, hR', hfr, Le.refl _, hdom⟩
            · rw [decide_eq_false c]
              rfl
            · simp only [VR]
              exact ⟨[_, _], rfl, by simp only [VRs, VR, and_true]⟩
  · cases hF
    refine ⟨H, Hsim.refl _, fun M vals w ν hM hv hR hdom => ?_⟩
    match vals, hv with
    | [v], hv =>
      simp only [VRs, VR, and_true] at hv
      subst hv
      refine (walk_no (m := 0) (ft := fun _ => ⟨#[]⟩) (fc := fun _ => 0) (by omega) rfl hM hR (ν2 := fun _ => none) (by simp only [VRs, VR, and_true]; exact ⟨_, _, rfl, (fun c' h => by cases h), Nat.le_refl _, fun h => by omega⟩) (.inl ⟨rfl, rfl, rfl⟩) (fun i b hb => by cases hb)).mono ?_
      rintro e w' ⟨rfl, hR', hfr⟩
      refine ⟨_, .tup [.v (.slice none 0 0), .v (.bool true)], _, ν, rfl, ⟨rfl, Hsim.refl _⟩, ?_, hR', hfr, Le.refl _, hdom⟩
      simp only [VR]
      exact ⟨[_, _], rfl, by simp only [VRs, VR, and_true]⟩
  · cases hF

end Go.Proofs.YtcadinbahmliiaaGreatDoor

/- FnSort returns true. Conditions: bytes. -/
namespace Go.Proofs.YtcadinbahmliiaaGreatDoor
open Go.RowKit
set_option maxRecDepth 100000

theorem sumSnA (m : Nat) (b : Nat → Int) (k : Nat) (ft : Nat → ByteArray) (fc : Nat → Int) :
    SumOk Tryz.prog 1 (.block 0 (.loop (loopAt 0 fSo))) (atS 151 (lvSoA .normal) 1 [.own 1 k, nilA0, nilA0, .v (.bool true), .v (i64 (0 : Nat))] (hpSn m b k ft fc) (fun K => K .normal (mkT 0 151 [(3, .own 1 k), (4, nilA0), (8, nilA0), (9, .v (.bool true))]) (hpSn m b k ft fc))) := by
  refine for_at gmSoR_ok (n := 100) (m := 1) (lv := lvSoA) (fun i => [.own 1 k, nilA0, nilA0, .v (.bool true), .v (i64 i)]) (fun _ => hpSn m b k ft fc) (fun _ => True) 0 (fun _ => noLam) (lv3_ris rfl rfl rfl) (Nat.le_refl _) trivial fun K Q hk i _ him => ⟨noLam_ok _ _ _, ?_⟩
  rw [rndSnA]
  refine good_out ⟨_, Hsim.refl _, ?_⟩
  rw [if_pos rfl]
  exact hk
theorem sumSnC (m : Nat) (b : Nat → Int) (k : Nat) (ft : Nat → ByteArray) (fc : Nat → Int) (i : Nat) (f : Bool) :
    SumOk Tryz.prog 1 (.block 4 (.loop (loopAt 4 fSo))) (atS 151 (lvSoC .normal) 1 [.own 1 k, nilA0, nilA0, .v (.bool true), .v (i64 i), .v (.bool f), .v (i64 (0 : Nat))] (hpSn m b k ft fc) (fun K => K .normal (mkT 0 151 [(3, .own 1 k), (4, nilA0), (8, nilA0), (9, .v (.bool true)), (11, .v (i64 i)), (12, .v (.bool f))]) (hpSn m b k ft fc))) := by
  refine for_at gmSoR_ok (n := 100) (m := 1) (lv := lvSoC) (fun q => [.own 1 k, nilA0, nilA0, .v (.bool true), .v (i64 i), .v (.bool f), .v (i64 q)]) (fun _ => hpSn m b k ft fc) (fun _ => True) 0 (fun _ => noLam) (lv3_ris rfl rfl rfl) (Nat.le_refl _) trivial fun K Q hk q _ him => ⟨noLam_ok _ _ _, ?_⟩
  rw [rndSnC]
  refine good_out ⟨_, Hsim.refl _, ?_⟩
  rw [if_pos rfl]
  exact hk
theorem sumSnB (m : Nat) (b : Nat → Int) (k : Nat) (ft : Nat → ByteArray) (fc : Nat → Int) (hk0 : k ≤ 2 ^ 40) (hno : ∀ i, i < k → erB (ft i) (fc i) = false) :
    SumOk Tryz.prog 1 (.block 2 (.loop (loopAt 2 fSo))) (atS 151 (lvSoB .normal) 1 [.own 1 k, nilA0, nilA0, .v (.bool true), .v (i64 (0 : Nat))] (hpSn m b k ft fc) (fun K => K .normal (mkT 0 151 [(4, nilA0), (8, nilA0), (9, .v (.bool true))]) [.row false m 1 (rowB b) 5])) := by
  refine for_at gmSoR_ok (n := 100) (m := 1) (lv := lvSoB) (fun i => [.own 1 k, nilA0, nilA0, .v (.bool true), .v (i64 i)]) (fun _ => hpSn m b k ft fc) (fun _ => True) k (fun i => if i < k then lamSnC m b k ft fc i true else oneL 4 errS) (lv3_ris rfl rfl rfl) (Nat.le_refl _) trivial fun K Q hk i _ him => ?_
  by_cases hlt : i < k
  · rw [if_pos hlt]
    refine ⟨lamC (by kernel_rfl) (sumSnC m b k ft fc i true), ?_⟩
    rw [rndSnB]
    refine good_cond (fun c1 => ?_) fun c1 => absurd (of_decide_eq_false c1) (by omega)
    simp only [Int.toNat_natCast, Nat.zero_add]
    rw [wr_in (x := (i : Int) + 1) (by omega), hno i hlt]
    refine good_needs ?_ (good_out ⟨i + 1, ⟨rfl, hlt, trivial⟩, rfl, Hsim.refl _⟩)
    simp only [ob_cons, ob_nil, and_true, decide_eq_true_eq]
    exact ⟨by omega, by omega, chk_of ⟨rfl, Hsim.refl _⟩⟩
  · rw [if_neg hlt]
    refine ⟨lamC (c := loopAt 4 fSo) (by kernel_rfl) errS_ok, ?_⟩
    have : i = k := by omega
    subst this
    rw [rndSnE]
    refine good_cond (fun c1 => absurd (of_decide_eq_true c1) (by omega)) fun c1 => good_out ⟨_, Hsim.refl _, ?_⟩
    rw [if_pos rfl]
    exact hk
theorem gmSo_ok : GamOk Tryz.prog (gmSo bdN bdT bdC erB bsL) := ext_ok (ext_ok (ext_ok (ext_ok (ext_ok g0_ok ok_drBs) ok_bsIY) ok_bsS) ok_smE) ok_erI
theorem gmSn_ok : GamOk Tryz.prog (gmSn bdN bdT bdC erB bsL) := ext_ok (ext_ok (ext_ok (ext_ok (ext_ok g0_ok ok_drBs) ok_bsIN) ok_bsS) ok_smE) ok_erI
theorem bsL_small {k : Nat} {ft : Nat → ByteArray} {fc : Nat → Int} (h : k ≤ 50) : bsL k ft fc = bkL erB ft fc k := by
  rw [bsL, decide_eq_false (by omega)]
  rfl
theorem sort_step {L : List (ByteArray × Int)} (h : SortE L) {i : Nat} (h0 : 0 < i) (hi : i < L.length) : ltP (eT L (i - 1), eC L (i - 1)) (eT L i, eC L i) = true := by
  rw [eTC L (i - 1) (by omega), eTC L i hi]
  exact List.pairwise_iff_getElem.1 h (i - 1) i (by omega) hi (by omega)
theorem yes_sor (m : Nat) (b : Nat → Int) (_ : m ≤ 9223372036854775807) (hb : okB m (rowB b) = true) : ∃ Γ n Λ, GamOk Tryz.prog Γ ∧ (∀ cc, (Tryz.f7).body = some cc → LamOk Tryz.prog 1 Λ cc) ∧ GoodQ (execF Tryz.prog Γ Λ n Tryz.f7 [.sl 0 1 0 0 m none] [.row false m 1 (rowB b) 5] (packK 1)) SaysYes := by
  obtain ⟨k, hk⟩ : ∃ k, bdN m b = k := ⟨_, rfl⟩
  obtain ⟨ft, hft⟩ : ∃ ft, bdT m b = ft := ⟨_, rfl⟩
  obtain ⟨fc, hfc⟩ : ∃ fc, bdC m b = fc := ⟨_, rfl⟩
  obtain ⟨L, hL⟩ : ∃ L, bsL k ft fc = L := ⟨_, rfl⟩
  have k4 : k ≤ 4 := hk ▸ bdN_le m b
  have hLb : bkL erB ft fc k = L := by rw [← hL, bsL_small (by omega)]
  have hn : L.length ≤ 4 := by
    have := bkL_len erB ft fc k
    rw [hLb] at this
    omega
  have hs : SortE L := hLb ▸ sort_bkL erB ft fc k
  have hr : ∀ z, z ∈ L → erB z.1 z.2 = true := fun z hz => by
    rw [← hLb, mem_bkL] at hz
    obtain ⟨i, _, h1, rfl⟩ := hz
    exact h1
  have hin : ∀ i, i < k → erB (ft i) (fc i) = true → (ft i, fc i) ∈ L := fun i hi h => by
    rw [← hLb, mem_bkL]
    exact ⟨i, hi, h, rfl⟩
  have self : bsL L.length (eT L) (eC L) = L := by rw [bsL_small (by omega)]; exact bkL_self hs hr
  have d50 : decide (k > 50) = false := decide_eq_false (by omega)
  by_cases hz : L.length = 0
  · have hno : ∀ i, i < k → erB (ft i) (fc i) = false := fun i hi => by
      cases h : erB (ft i) (fc i) with
      | false => rfl
      | true =>
        have := hin i hi h
        rw [List.eq_nil_of_length_eq_zero hz] at this
        cases this
    refine ⟨_, 100, lamSn m b k ft fc, gmSn_ok, fun cc hcc => ?_, ?_⟩
    · have e : cc = (Tryz.f7).body.getD .skip := by rw [hcc]; rfl
      subst e
      exact lamAddC (c := loopAt 0 fSo) (by kernel_rfl) (sumSnA m b k ft fc) (lamC (c := loopAt 2 fSo) (by kernel_rfl) (sumSnB m b k ft fc (by omega) hno))
    · rw [lawSn]
      refine good_cond (fun _ => good_out rfl) fun c => ?_
      have c := of_decide_eq_false c
      simp only [Nat.zero_add, itB_row, itT_row, itC_row, hk, hft, hfc, hL, d50]
      refine good_needs (by simp only [ob_cons, ob_nil, and_true, decide_eq_true_eq, hb, allE_row, ble_me, true_and, hz]; exact ⟨by omega, rfl⟩) ?_
      simp only [Bool.not_false, Bool.not_true, show (false == true) = false from rfl, cond_false]
      refine good_needs (by simp only [ob_cons, ob_nil, and_true, ble_me, true_and, hz]; rfl) ?_
      exact good_needs (by simp only [ob_cons, ob_nil, and_true]; exact ⟨chk_of ⟨trivial, Hsim.refl _⟩, chk_of ⟨trivial, Hsim.refl _⟩⟩) (good_out rfl)
  · refine ⟨_, 100, lamSo m b k ft fc L.length (eT L) (eC L) L.length (eT L) (eC L), gmSo_ok, fun cc hcc => ?_, ?_⟩
    · have e : cc = (Tryz.f7).body.getD .skip := by rw [hcc]; rfl
      subst e
      refine lamAddC (c := loopAt 0 fSo) (by kernel_rfl) (sumSoA m b k ft fc L.length (eT L) (eC L) L.length (eT L) (eC L) (by omega) (fun i hi => ?_) fun i h0 hi => sort_step hs h0 hi) (lamC (c := loopAt 2 fSo) (by kernel_rfl) (sumSoB m b k ft fc L.length (eT L) (eC L) L.length (eT L) (eC L) (by omega) (by omega) fun i hi h => ?_))
      · have h1 := hr _ (List.getElem_mem hi)
        rw [← eTC L i hi] at h1
        exact h1
      · obtain ⟨q, hq, e⟩ := List.getElem_of_mem (hin i hi h)
        rw [← eTC L q hq, Prod.mk.injEq] at e
        exact ⟨q, hq, e.1, e.2⟩
    · rw [lawSo]
      refine good_cond (fun _ => good_out rfl) fun c => ?_
      have c := of_decide_eq_false c
      have q1 : Nat.blt 0 L.length = true := by rw [Nat.blt_eq]; omega
      have l40 : decide (L.length ≤ 1099511627776) = true := decide_eq_true (by omega)
      simp only [Nat.zero_add, itB_row, itT_row, itC_row, hk, hft, hfc, hL, d50, self]
      refine good_needs (by simp only [ob_cons, ob_nil, and_true, decide_eq_true_eq, hb, allE_row, ble_me, true_and, q1]; omega) ?_
      simp only [Bool.not_false, Bool.not_true, show (false == true) = false from rfl, cond_false]
      refine good_needs ?_ (good_out rfl)
      simp only [ob_cons, ob_nil, and_true, ble_me, beq_me, allE_row, sameE_self, l40, q1, true_and]
      exact ⟨chk_of (Hsim.refl _), chk_of (Hsim.refl _)⟩

end Go.Proofs.YtcadinbahmliiaaGreatDoor

/- Sorted books have each right entry once: FnSort returns true, and its arguments read as before. Conditions: the tables, as the row lists them; tied by the card. -/
namespace Go.Proofs.YtcadinbahmliiaaGreatDoor
open Go.ChangeShapes Go.WideShapes Go.ChangeAt Go.RowKit

set_option maxRecDepth 100000
theorem sor_lifted (os : Os) (started : os.Started) (H : Type) (enc : TypeId × Value → H) :
    ReturnsInHanded {} Tryz.checked os 7 .any (fun w args => (Rows.fnSortSpec.pre enc Tryz.prog Tryz.f7 Rows.fnSortRow.domain false w args ∧ laidMet Tryz.prog Rows.fnSortRow.laid w) ∧ sizedMet enc Tryz.prog Tryz.f7 (OpenSpec.ofChange Rows.fnSortSpec) false w args)
      (Rows.fnSortSpec.post enc Tryz.prog Tryz.f7 false true false false) := by
  refine wrapS (C := Tryz.checked) (X := fun w _ => laidMet Tryz.prog Rows.fnSortRow.laid w) (fun _ _ _ hh h => h.of_heap hh) own started (by kernel_rfl) Tryz.func7
    (ChangeSpec.witness_at (enc := enc) (C := Tryz.checked) (os := os) (X := fun w _ => laidMet Tryz.prog Rows.fnSortRow.laid w) false (laidW os) #[.slice none 0 0] 8 rfl (by kernel_rfl) (by kernel_rfl) (by kernel_rfl) (by kernel_rfl) (by kernel_rfl) (laidW_met os _)) ?_
  intro W base args ds gs before hval hW hL hsh
  exact contractB (spec := Rows.fnSortSpec) Tryz.func7 rfl rfl rfl (fun _ _ => rfl) (fun m b hm hb => yes_sor m b hm hb) H enc W base args ds gs before hval hW (laid_tab hL hsh)

set_option maxRecDepth 100000 in
theorem sor_f1 : Rows.fnSortRow.wf (OpenSpec.ofChange Rows.fnSortSpec) = true := by kernel_rfl
set_option maxRecDepth 100000 in
theorem sor_f2 : (Rows.fnSortRow.inPlace == Tryz.prog.inPlace 7) = true := by kernel_rfl
set_option maxRecDepth 100000 in
theorem sor_f3 : (Rows.fnSortRow.unfollowed == Tryz.prog.unfollowed 7) = true := by kernel_rfl
set_option maxRecDepth 100000 in
theorem sor_f4 : (Rows.fnSortRow.recurses == Tryz.prog.recurses 7) = true := by kernel_rfl
set_option maxRecDepth 100000 in
theorem sor_f5 : (Rows.fnSortRow.named == Tryz.prog.varsNamed 7) = true := by kernel_rfl
set_option maxRecDepth 100000 in
theorem sor_f6 : Tryz.prog.funcNamed Rows.fnSortRow.func = some 7 := by kernel_rfl
theorem sor_f7 : (Rows.fnSortRow.lifted == Tryz.prog.liftsFinal) = true := jfG
theorem sor_f8 : (Tryz.prog.make == some Rows.fnSortRow.make) = true := jfH
theorem sor_f9 : (Rows.fnSortRow.plainKeys == Tryz.prog.plainKeys) = true := jfI
set_option maxRecDepth 100000 in
theorem sor_joined : joinedFacts Tryz.prog 7 Tryz.f7 Rows.fnSortSpec Rows.fnSortRow = true := by
  unfold joinedFacts
  rw [jfA, jfB, jfC, jfD, jfE, jfF, sor_f1, sor_f2, sor_f3, sor_f4, sor_f5, sor_f7, sor_f8, sor_f9]
  kernel_rfl

theorem sor_said : Rows.FnSortSaid :=
  OpenClaim.holds_of_wide 7 Tryz.f7 rfl rfl rfl rfl rfl rfl rfl ⟨rfl, rfl, rfl, rfl, rfl⟩ rfl rfl rfl rfl rfl sor_f6 Tryz.func7 sor_joined
    (of_decide_eq_true (by kernel_rfl)) (by unfold Func.isWrapper; first | (rw [if_pos (by decide +kernel)]; kernel_rfl) | (rw [if_neg (by decide +kernel)]; exact ⟨rfl, rfl⟩))
    (fun os started H enc _ => sor_lifted os started H enc)

theorem sor_holds : Rows.FnSortCardSaid :=
  Claim7.holds_tied_plain_at .later [] [.data, .data, .data, .data, .sentinel, .sentinel, .pinned] true (true, "64f19479c3a6d81dfc80de2dffd5fbef6da7676803f5285d7727ce03c0476430") true
    sor_said (fun _ h => by cases h) (by kernel_rfl) (fun _ h => by cases h) fnSort_row_tie rfl ⟨rfl, rfl⟩ (by kernel_rfl) rfl
    (fun f fn hf hfn => by
      obtain rfl : f = 7 := (Option.some.inj (sor_f6.symm.trans hf)).symm
      obtain rfl : fn = Tryz.f7 := (Option.some.inj (Tryz.func7.symm.trans hfn)).symm
      exact ⟨by kernel_rfl, fun j t ht => by
        rw [Tryz.params7] at ht
        have h3 : t = 30 := by
          rcases j with _ | j
          · simpa using ht.symm
          · simp at ht
        subst h3
        exact (show Tryz.prog.wantsStandIn 30 = false by kernel_rfl)⟩)
    (by kernel_rfl)
#print axioms sor_holds

end Go.Proofs.YtcadinbahmliiaaGreatDoor
