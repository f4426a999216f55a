/- The abstract machine, 14: words for callees that read slices, write into slices that they are handed, and return new ones. Conditions: those of the table of callees and of the loops' words. -/
import Derived.Test.YtkbdppnlojlcdaaV12
namespace Go.Proofs.Ytkbdppnlojlcdaa
open Go.RowKit

inductive Md where
  | val
  | rd (s : Nat) (t : TypeId)
  | wr (s : Nat) (t : TypeId)

inductive SA where
  | v (x : Value)
  | row (m : Nat) (g : Nat → List Value)
  | own (m n : Nat) (g : Nat → List Value)

structure SX where
  sa : SA
  ix : Option Nat
  ob : List Bool

def saOf (H : List AB) (d : Md) (a : AV) : Option SX :=
  match d with
  | .val => a.toV.map fun x => ⟨.v x, none, []⟩
  | .rd s _ => (match a with
    | .v (.slice none 0 0) => some ⟨.row 0 (fun _ => []), none, []⟩
    | a => (elemsA H s a).map fun r => ⟨.row r.2.1 r.2.2.1, some r.1, r.2.2.2⟩)
  | .wr s t => (match a with
    | .own i m => (match H.getD i .gone with
      | .row true n wd g ty => if wd = s ∧ ty = t then some ⟨.own m n g, some i, [Nat.ble m n]⟩ else none
      | _ => none)
    | _ => none)

def saAll (H : List AB) : List Md → List AV → Option (List SX)
  | [], [] => some []
  | d :: ds, a :: as => match saOf H d a, saAll H ds as with
    | some x, some xs => some (x :: xs)
    | _, _ => none
  | _, _ => none

/-- The callee's own view. -/
def avC : Nat → List Md → List SA → List AV
  | k, .val :: ds, .v x :: r => .v x :: avC k ds r
  | k, .rd s _ :: ds, .row m _ :: r => .sl k s 0 0 m none :: avC (k + 1) ds r
  | k, .wr _ _ :: ds, .own m _ _ :: r => .own k m :: avC (k + 1) ds r
  | _, _, _ => []
def abC : List Md → List SA → List AB
  | .val :: ds, .v _ :: r => abC ds r
  | .rd s t :: ds, .row m g :: r => .row false m s g t :: abC ds r
  | .wr s t :: ds, .own _ n g :: r => .row true n s g t :: abC ds r
  | _, _ => []
/-- The same blocks, behind the call. -/
def abP : List Md → List SA → List (Nat → List Value) → List AB
  | .val :: ds, .v _ :: r, ps => abP ds r ps
  | .rd s t :: ds, .row m g :: r, ps => .row false m s g t :: abP ds r ps
  | .wr s t :: ds, .own m n g :: r, p :: ps => .row true n s (fun j => bif Nat.blt j m then p j else g j) t :: abP ds r ps
  | _, _, _ => []
def ixC : List Md → List SX → List (Option Nat)
  | .val :: ds, _ :: r => ixC ds r
  | .rd _ _ :: ds, x :: r => x.ix :: ixC ds r
  | .wr _ _ :: ds, x :: r => x.ix :: ixC ds r
  | _, _ => []
def putC : List (Option Nat) → List AB → List (Nat × AB)
  | some i :: is, .row true n s g t :: bs => (i, .row true n s g t) :: putC is bs
  | _ :: is, _ :: bs => putC is bs
  | _, _ => []
def hasWr : List Md → Bool
  | [] => false
  | .wr _ _ :: _ => true
  | _ :: ds => hasWr ds

structure FR where
  val : AV
  new : List AB := []
  put : List (Nat → List Value) := []
  obl : List Bool := []

mutual
def shA (d : Nat) : AV → Option AV
  | .v x => some (.v x)
  | .own i l => some (.own (d + i) l)
  | .tup cs => (shAs d cs).map .tup
  | .agg cs => (shAs d cs).map .agg
  | _ => none
def shAs (d : Nat) : List AV → Option (List AV)
  | [] => some []
  | a :: as => match shA d a, shAs d as with
    | some x, some xs => some (x :: xs)
    | _, _ => none
end

def isRowT : AB → Bool
  | .row true _ _ _ _ => true
  | _ => false

def specR (mds : List Md) (F : List SA → Option FR) : Spec := fun avs H base =>
  match saAll H mds avs with
  | some xs => match F (xs.map (·.sa)) with
    | some fr => match shA base fr.val with
      | some av => cond ((!hasWr mds || nodupB ((ixC mds xs).filterMap id)) && fr.new.all isRowT && Nat.beq (abP mds (xs.map (·.sa)) fr.put).length (abC mds (xs.map (·.sa))).length)
          (some { val := av, rd := (ixC mds xs).filterMap id, put := putC (ixC mds xs) (abP mds (xs.map (·.sa)) fr.put), new := fr.new, obl := xs.flatMap (·.ob) ++ fr.obl }) none
      | none => none
    | none => none
  | none => none

/-- What the callee is to come to. -/
def GivR (ap : List AB) (fr : FR) : Ex → List AV → List AB → Prop := fun _ l H' => ∃ av, shA ap.length fr.val = some av ∧ l = [av] ∧ Hsim H' (ap ++ fr.new)

mutual
theorem VR.shift {d e : Nat} {ν ν' : Nu} (h : ∀ q b, ν (d + q) = some b → ν' (e + q) = some b) : ∀ {a x y : AV} {v : Value}, shA d a = some x → shA e a = some y → VR ν x v → VR ν' y v
  | .v _, _, _, _, h1, h2, hv => by
    simp only [shA, Option.some.injEq] at h1 h2
    subst h1 h2
    simpa only [VR] using hv
  | .own _ _, _, _, _, h1, h2, hv => by
    simp only [shA, Option.some.injEq] at h1 h2
    subst h1 h2
    simp only [VR] at hv ⊢
    obtain ⟨b, e1, e2⟩ := hv
    exact ⟨b, h _ _ e1, e2⟩
  | .tup cs, _, _, _, h1, h2, hv => by
    simp only [shA, Option.map_eq_some_iff] at h1 h2
    obtain ⟨xs, h1, rfl⟩ := h1
    obtain ⟨ys, h2, rfl⟩ := h2
    simp only [VR] at hv ⊢
    obtain ⟨l, e1, e2⟩ := hv
    exact ⟨l, e1, VRs.shift h h1 h2 e2⟩
  | .agg cs, _, _, _, h1, h2, hv => by
    simp only [shA, Option.map_eq_some_iff] at h1 h2
    obtain ⟨xs, h1, rfl⟩ := h1
    obtain ⟨ys, h2, rfl⟩ := h2
    simp only [VR] at hv ⊢
    obtain ⟨l, e1, e2⟩ := hv
    exact ⟨l, e1, VRs.shift h h1 h2 e2⟩
  | .ptr .., _, _, _, h1, _, _ => by simp [shA] at h1
  | .sl .., _, _, _, h1, _, _ => by simp [shA] at h1
  | .fn .., _, _, _, h1, _, _ => by simp [shA] at h1
  | .dead, _, _, _, h1, _, _ => by simp [shA] at h1
theorem VRs.shift {d e : Nat} {ν ν' : Nu} (h : ∀ q b, ν (d + q) = some b → ν' (e + q) = some b) : ∀ {as xs ys : List AV} {vs : List Value}, shAs d as = some xs → shAs e as = some ys → VRs ν xs vs → VRs ν' ys vs
  | [], _, _, _, h1, h2, hv => by
    simp only [shAs, Option.some.injEq] at h1 h2
    subst h1 h2
    rename_i vs
    cases vs with
    | nil => simp only [VRs]
    | cons => simp only [VRs] at hv
  | a :: as, _, _, vs, h1, h2, hv => by
    simp only [shAs] at h1 h2
    split at h1
    · rename_i x xs p1 p2
      cases h1
      split at h2
      · rename_i y ys q1 q2
        cases h2
        cases vs with
        | nil => simp only [VRs] at hv
        | cons v vs =>
          simp only [VRs] at hv ⊢
          exact ⟨VR.shift h p1 q1 hv.1, VRs.shift h p2 q2 hv.2⟩
      · cases h2
    · cases h1
end

theorem elemsA_live {H : List AB} {s : Nat} {x : AV} {r : Nat × Nat × (Nat → List Value) × List Bool} (h : elemsA H s x = some r) : (H.getD r.1 .gone).live = true := by
  unfold elemsA at h
  split at h
  · split at h
    · rename_i hH
      split at h
      · cases h; simp only [hH]; rfl
      · cases h
    · cases h
  · split at h
    · rename_i hH
      split at h
      · cases h; simp only [hH]; rfl
      · cases h
    · cases h
  · cases h

/-- A slice that is read, as the callee sees it. -/
theorem elemsA_view {H : List AB} {s : Nat} {x : AV} {i m : Nat} {g : Nat → List Value} {ob : List Bool} {ν : Nu} {w : World} {y : Value} (h : elemsA H s x = some (i, m, g, ob)) (ho : obls ob = true) (hv : VR ν x y) (hr : BR ν i (H.getD i .gone) w) (t : TypeId) :
    ∃ o : Option Bk, (∀ (νc : Nu) (k : Nat), νc k = o → VR νc (.sl k s 0 0 m none) y ∧ BR νc k (.row false m s g t) w) ∧ ∀ b, o = some b → ∃ b0, ν i = some b0 ∧ b0.n = b.n ∧ b.n < w.heap.size := by
  have core : ∀ (p : Option Addr) (c : Nat), y = .slice p m c → m ≤ c → (c = 0 ∨ ∃ (b0 : Bk) (off : Nat) (l : List Value) (t' : TypeId) (fz : Nat × Nat), ν i = some b0 ∧ p = some ⟨b0.n, off, none⟩ ∧ w.heap[b0.n]? = some (.cells l.toArray t' fz) ∧
      ∀ q, q < m → ((g q).length = s ∧ ∀ x ∈ g q, x.oneCell' = true) ∧ ∀ k, k < s → l[off + (q * s + k)]? = (g q)[k]?) →
      ∃ o : Option Bk, (∀ (νc : Nu) (k : Nat), νc k = o → VR νc (.sl k s 0 0 m none) y ∧ BR νc k (.row false m s g t) w) ∧ ∀ b, o = some b → ∃ b0, ν i = some b0 ∧ b0.n = b.n ∧ b.n < w.heap.size := by
    rintro p c rfl hmc (rfl | ⟨b0, off, l, t', fz, e1, rfl, e3, e4⟩)
    · have hm : m = 0 := by omega
      subst hm
      refine ⟨none, fun νc k hk => ⟨?_, .inl ⟨rfl, rfl, hk⟩⟩, fun b hb => by cases hb⟩
      simp only [VR]
      exact ⟨p, 0, rfl, by simp, Nat.le_refl _, fun h => absurd h (Nat.lt_irrefl 0)⟩
    · refine ⟨some ⟨b0.n, off, m⟩, fun νc k hk => ⟨?_, .inr ⟨_, l, t', fz, hk, e3, by simp, Nat.le_refl _, e4⟩⟩, fun b hb => ?_⟩
      · simp only [VR]
        exact ⟨_, c, rfl, by simp, hmc, fun _ => ⟨_, hk, by simp⟩⟩
      · cases hb
        exact ⟨b0, e1, rfl, (Array.getElem?_eq_some_iff.1 e3).1⟩
  unfold elemsA at h
  split at h
  · rename_i i' m'
    split at h
    · rename_i rw' n wd g' tt hH
      split at h
      · rename_i e
        subst e
        simp only [Option.some.injEq, Prod.mk.injEq] at h
        obtain ⟨rfl, rfl, rfl, rfl⟩ := h
        simp only [VR] at hv
        obtain ⟨b, hb, rfl⟩ := hv
        rw [hH] at hr
        rcases hr with ⟨_, _, e1⟩ | ⟨b', l, t', fz, e1, e2, e3, e4, e5⟩
        · rw [hb] at e1; cases e1
        rw [hb] at e1; cases e1
        have hle : m' ≤ n := by
          simp only [obls, List.all_cons, List.all_nil, Bool.and_true, id] at ho
          exact Nat.le_of_ble_eq_true ho
        exact core _ _ rfl (by omega) (.inr ⟨b, b.o, l, t', fz, hb, rfl, e2, fun q hq => e5 q (by omega)⟩)
      · cases h
    · cases h
  · rename_i i' w' j k m' cap
    split at h
    · rename_i rw' n wd g' tt hH
      split at h
      · rename_i e
        obtain ⟨rfl, rfl, rfl⟩ := e
        simp only [Option.some.injEq, Prod.mk.injEq] at h
        obtain ⟨rfl, rfl, rfl, rfl⟩ := h
        simp only [VR] at hv
        obtain ⟨p, c, rfl, hc, hmc, hp⟩ := hv
        have hle : j + m' ≤ n := by
          simp only [obls, List.all_cons, List.all_nil, Bool.and_true, id] at ho
          exact Nat.le_of_ble_eq_true ho
        rcases Nat.eq_zero_or_pos c with h0 | h0
        · exact core _ _ rfl hmc (.inl h0)
        · obtain ⟨b, hb, rfl⟩ := hp h0
          rw [hH] at hr
          rcases hr with ⟨_, h00, e1⟩ | ⟨b', l, t', fz, e1, e2, e3, e4, e5⟩
          · rw [hb] at e1; cases e1
          rw [hb] at e1; cases e1
          refine core _ _ rfl hmc (.inr ⟨b, _, l, t', fz, hb, rfl, e2, fun q hq => ?_⟩)
          obtain ⟨f1, f2⟩ := e5 (j + q) (by omega)
          refine ⟨f1, fun k hk => ?_⟩
          rw [← f2 k hk, Nat.add_mul]
          congr 1
          omega
      · cases h
    · cases h
  · cases h

structure ArgsOk (H : List AB) (ν : Nu) (w : World) (mds : List Md) (xs : List SX) (sas : List SA) (vals : List Value) (L : List (Option Bk)) : Prop where
  len : L.length = (abC mds sas).length
  len2 : (ixC mds xs).length = L.length
  all : ∀ (k : Nat) (νc : Nu), (∀ j, j < L.length → νc (k + j) = (L[j]?).join) → VRs νc (avC k mds sas) vals ∧ ∀ (j : Nat) b, (abC mds sas)[j]? = some b → BR νc (k + j) b w
  back : ∀ (j : Nat) b, L[j]? = some (some b) → ∃ i b0, (ixC mds xs)[j]? = some (some i) ∧ ν i = some b0 ∧ b0.n = b.n ∧ b.n < w.heap.size ∧ (H.getD i .gone).live = true ∧ (∀ c, (abC mds sas)[j]? = some c → c.wr = true → b = b0 ∧ (H.getD i .gone).wr = true)

theorem args_ok {H : List AB} {ν : Nu} {w : World} : ∀ {mds : List Md} {avs : List AV} {xs : List SX} {vals : List Value}, saAll H mds avs = some xs → obls (xs.flatMap (·.ob)) = true → VRs ν avs vals → (∀ i ∈ (ixC mds xs).filterMap id, BR ν i (H.getD i .gone) w) → (∀ i b, ν i = some b → b.n < w.heap.size) →
    ∃ L, ArgsOk H ν w mds xs (xs.map (·.sa)) vals L
  | [], [], xs, vals, h, _, hv, _, _ => by
    simp only [saAll, Option.some.injEq] at h
    subst h
    cases vals with
    | nil => exact ⟨[], rfl, rfl, fun k νc _ => ⟨by simp only [List.map_nil, avC, VRs], fun j b hb => by simp [abC] at hb⟩, fun j b hb => by simp at hb⟩
    | cons => simp only [VRs] at hv
  | d :: ds, a :: as, xs, vals, h, ho, hv, hr, hlt => by
    simp only [saAll] at h
    split at h
    · rename_i x xs' h1 h2
      cases h
      cases vals with
      | nil => simp only [VRs] at hv
      | cons y ys =>
      simp only [VRs] at hv
      have ho' : obls x.ob = true ∧ obls (xs'.flatMap (·.ob)) = true := by simpa [obls, List.all_append] using ho
      cases d with
      | val =>
        obtain ⟨L, r⟩ := args_ok (w := w) h2 ho'.2 hv.2 (fun i hi => hr i (by simpa [ixC] using hi)) hlt
        simp only [saOf, Option.map_eq_some_iff] at h1
        obtain ⟨z, hz, rfl⟩ := h1
        refine ⟨L, by simpa [abC] using r.len, by simpa [ixC] using r.len2, fun k νc hk => ?_, fun j b hb => ?_⟩
        · obtain ⟨r1, r2⟩ := r.all k νc hk
          refine ⟨?_, fun j b hb => r2 j b (by simpa [abC] using hb)⟩
          simp only [List.map_cons, avC, VRs, VR]
          exact ⟨VR_toV hz hv.1, r1⟩
        · simpa [ixC, abC] using r.back j b hb
      | rd s t =>
        obtain ⟨L, r⟩ := args_ok (w := w) h2 ho'.2 hv.2 (fun i hi => hr i (by simp only [ixC, List.filterMap_cons]; cases x.ix <;> simp_all)) hlt
        have key : ∃ m g, x.sa = .row m g ∧ ∃ o : Option Bk, (∀ (νc : Nu) (k : Nat), νc k = o → VR νc (.sl k s 0 0 m none) y ∧ BR νc k (.row false m s g t) w) ∧ ∀ b, o = some b → ∃ i b0, x.ix = some i ∧ ν i = some b0 ∧ b0.n = b.n ∧ b.n < w.heap.size ∧ (H.getD i .gone).live = true := by
          simp only [saOf] at h1
          split at h1
          · cases h1
            simp only [VR] at hv
            refine ⟨0, fun _ => [], rfl, none, fun νc k hk => ⟨?_, .inl ⟨rfl, rfl, hk⟩⟩, fun b hb => by cases hb⟩
            simp only [VR]
            exact ⟨none, 0, hv.1, by simp, Nat.le_refl _, fun h => absurd h (Nat.lt_irrefl 0)⟩
          · simp only [Option.map_eq_some_iff] at h1
            obtain ⟨⟨i, m, g, ob⟩, he, rfl⟩ := h1
            obtain ⟨o, e1, e2⟩ := elemsA_view he ho'.1 hv.1 (hr i (by simp [ixC])) t
            exact ⟨m, g, rfl, o, e1, fun b hb => let ⟨b0, f1, f2, f3⟩ := e2 b hb; ⟨i, b0, rfl, f1, f2, f3, elemsA_live he⟩⟩
        obtain ⟨m, g, hsa, o, e1, e2⟩ := key
        refine ⟨o :: L, by simp [abC, hsa, r.len], by simp [ixC, r.len2], fun k νc hk => ?_, fun j b hb => ?_⟩
        · have hk0 : νc k = o := by simpa using hk 0 (by simp)
          obtain ⟨r1, r2⟩ := r.all (k + 1) νc (fun j hj => by
            have := hk (j + 1) (by simpa using hj)
            rwa [show k + (j + 1) = k + 1 + j by omega, List.getElem?_cons_succ] at this)
          refine ⟨?_, fun j b hb => ?_⟩
          · simp only [List.map_cons, hsa, avC, VRs]
            exact ⟨(e1 νc k hk0).1, r1⟩
          · simp only [List.map_cons, hsa, abC] at hb
            cases j with
            | zero => simp at hb; subst hb; exact (e1 νc k hk0).2
            | succ j =>
              have := r2 j b (by simpa using hb)
              rwa [show k + 1 + j = k + (j + 1) by omega] at this
        · cases j with
          | zero =>
            simp only [List.getElem?_cons_zero, Option.some.injEq] at hb
            obtain ⟨i, b0, f1, f2, f3, f4, f5⟩ := e2 b hb
            refine ⟨i, b0, by simp [ixC, f1], f2, f3, f4, f5, fun c hc hw => ?_⟩
            simp only [List.map_cons, hsa, abC, List.getElem?_cons_zero, Option.some.injEq] at hc
            subst hc
            simp [AB.wr] at hw
          | succ j =>
            have := r.back j b (by simpa using hb)
            simpa [ixC, hsa, abC] using this
      | wr s t =>
        obtain ⟨L, r⟩ := args_ok (w := w) h2 ho'.2 hv.2 (fun i hi => hr i (by simp only [ixC, List.filterMap_cons]; cases x.ix <;> simp_all)) hlt
        simp only [saOf] at h1
        split at h1
        · rename_i i m
          split at h1
          · rename_i n wd g ty hH
            split at h1
            · rename_i e
              obtain ⟨rfl, rfl⟩ := e
              cases h1
              have hvo := hv.1
              simp only [VR] at hvo
              obtain ⟨b, hb, rfl⟩ := hvo
              have hbr := hr i (by simp [ixC])
              rw [hH] at hbr
              rcases hbr with ⟨h00, _, _⟩ | ⟨b', l, t', fz, f1, f2⟩
              · cases h00
              rw [hb] at f1
              cases f1
              refine ⟨some b :: L, by simp [abC, r.len], by simp [ixC, r.len2], fun k νc hk => ?_, fun j c hc => ?_⟩
              · have hk0 : νc k = some b := by simpa using hk 0 (by simp)
                obtain ⟨r1, r2⟩ := r.all (k + 1) νc (fun j hj => by
                  have := hk (j + 1) (by simpa using hj)
                  rwa [show k + (j + 1) = k + 1 + j by omega, List.getElem?_cons_succ] at this)
                refine ⟨?_, fun j c hc => ?_⟩
                · simp only [List.map_cons, avC, VRs, VR]
                  exact ⟨⟨b, hk0, rfl⟩, r1⟩
                · simp only [List.map_cons, abC] at hc
                  cases j with
                  | zero => simp at hc; subst hc; exact .inr ⟨b, l, t', fz, hk0, f2⟩
                  | succ j =>
                    have := r2 j c (by simpa using hc)
                    rwa [show k + 1 + j = k + (j + 1) by omega] at this
              · cases j with
                | zero =>
                  simp only [List.getElem?_cons_zero, Option.some.injEq] at hc
                  subst hc
                  exact ⟨i, b, by simp [ixC], hb, rfl, hlt i b hb, by rw [hH]; rfl, fun c _ _ => ⟨rfl, by rw [hH]; rfl⟩⟩
                | succ j =>
                  have := r.back j c (by simpa using hc)
                  simpa [ixC, abC] using this
            · cases h1
          · cases h1
        · cases h1
    · cases h
  | [], _ :: _, _, _, h, _, _, _, _ => by simp [saAll] at h
  | _ :: _, [], _, _, h, _, _, _, _ => by simp [saAll] at h

end Go.Proofs.Ytkbdppnlojlcdaa
