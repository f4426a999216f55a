/- The frame of a law with one slice as its argument: from what its run comes to to the given statement. Conditions: those that each theorem names. -/
import Derived.Test.YtkbdppnlojlcdaaZC30
import Derived.Test.YtkbdppnlojlcdaaZC31
import Derived.Test.YtkbdppnlojlcdaaZC32
import Derived.Test.YtkbdppnlojlcdaaRows
import Derived.WalkKit
import Derived.ProofKit
import Derived.OpenShut
import Derived.Carry
import Derived.Deep.Slices
/- The frame of a law with one slice as its argument: from what its run comes to to the given statement. Conditions: those that each theorem names. -/
namespace Go.Proofs.Ytkbdppnlojlcdaa
open Go.ChangeShapes Go.WideShapes Go.ChangeAt Go.RowKit Go.Deep

theorem own : ownKnob Try.prog.godebug = none := by kernel_rfl
theorem laidOut : laidOutB Try.prog = true := by kernel_rfl

/-- The law is true. -/
def SaysYes : Ex → List AV → List AB → Prop := fun _ l _ => l = [.v (.bool true)]

section
variable {H : Type} {enc : TypeId × Value → H} {P : Program}
/-- The row's last step, where it is known that below the heap's old size nothing has turned. -/
theorem post_below {f : Func} {s : ChangeSpec} {apart fresh handsOn again : Bool} {W W' : World} {args : Array Value} {v : Value} {ds gs : List (DataW H)} {before pa pv : List MemPlace}
    (hW : DataW.Whole enc P f.params.toList s.vars apart W args.toList ds gs before)
    (hres : ∀ (b : Nat) (sp : Nat → Bool) (hd : Bool), DataW.TrodAll enc P W' b sp hd f.resultTypes.toList (v.resultList f.resultTypes.size) (s.fn H (ds ++ gs)).results [])
    (hargs : ∀ sp : Nat → Bool, (∀ p ∈ before, sp p.block = true) → DataW.TrodAll enc P W' 0 sp true f.params.toList args.toList (s.fn H (ds ++ gs)).args pa)
    (hvars : ∀ sp : Nat → Bool, (∀ p ∈ before, sp p.block = true) → DataW.TrodVars enc P W' sp s.vars (s.fn H (ds ++ gs)).vars pv)
    (hps : before = pa ++ pv) (hb : Below W.heap.size W W')
    (hok : ∀ (j : Nat) (t : TypeId) (r : Value), f.resultTypes[j]? = some t → (v.resultList f.resultTypes.size)[j]? = some r → Value.okWide P W' .any 0 t r) :
    s.post enc P f apart fresh handsOn again W args v W' := by
  have hlt : ∀ p ∈ before, p.block < W.heap.size := fun p hp => hW.lt p hp
  have hold : ∀ p ∈ before, (fun b => decide (b < W.heap.size)) p.block = true := fun p hp => by simpa using hlt p hp
  refine ⟨ds, gs, before, [], pa, pv, hW, hres _ _ _, hargs _ hold, hvars _ hold, World.keptBut_mono (fun p hp => ⟨hp, ?_⟩) (hb.frame (· ∈ before)), fun _ => ?_⟩
  · rw [hps, List.mem_append] at hp
    exact Or.inr hp
  · obtain ⟨_, _, _, _, _, hz, hn⟩ := hW
    refine ⟨hok, _, _, ([] ++ pa) ++ pv, ⟨[] ++ pa, pv, trodAll_append (hargs _ (fun _ _ => rfl)) (hres _ _ _), hvars _ (fun _ _ => rfl), rfl, ?_, ?_⟩, ?_⟩
    · intro b off hp
      have hin : MemPlace.cell b off ∈ before := by rw [hps]; simpa using hp
      rw [hb.frozen (hlt _ hin)]
      exact hz b off hin
    · intro ha
      have := hn ha
      rw [hps] at this
      simpa using this
    · intro p hp _
      rw [hps]
      simpa using hp

/-- A slice that came in, as the machine sees it. -/
theorem arg_row {W : World} {base s : Nat} {t e : TypeId} {v : Value} {d : DataW H} {p : List MemPlace} (ht : P.underlying t = some (.slice e)) (hc : P.cellsOf e = s) (hs : 0 < s) (hv : Value.okWide P W .any base t v)
    (h : DataW.Trod enc P W 0 (fun _ => true) true t v d p) (row : (Nat → Int) → List Value) (ok : (Nat → Int) → Prop) (hrow : ∀ f, (row f).length = s ∧ ∀ x ∈ row f, x.oneCell' = true)
    (he : ∀ n cs x, cs.length = s → DataW.trod enc P W 0 (fun _ => true) true n e cs = some x → ∃ f, ok f ∧ cs = row f) (tt : TypeId) :
    ∃ (m : Nat) (ν : Nu) (g : Nat → Nat → Int), m ≤ 9223372036854775807 ∧ (∀ j, j < m → ok (g j)) ∧ VR ν (.sl 0 s 0 0 m none) v ∧ RH (fun k => W.heap.size ≤ k) ν (fun b => ([AB.row false m s (fun j => row (g j)) tt] : List AB).getD b .gone) W ∧ ∀ i b, ν i = some b → i < 1 := by
  obtain ⟨pt, len, cap, rfl⟩ := okWide_slice ht hv
  obtain ⟨fuel, hf⟩ := h
  have empty : ∀ c, VR (fun _ => none) (.sl 0 s 0 0 0 none) (.slice pt 0 c) → ∃ (m : Nat) (ν : Nu) (g : Nat → Nat → Int), m ≤ 9223372036854775807 ∧ (∀ j, j < m → ok (g j)) ∧ VR ν (.sl 0 s 0 0 m none) (.slice pt 0 c) ∧ RH (fun k => W.heap.size ≤ k) ν (fun b => ([AB.row false m s (fun j => row (g j)) tt] : List AB).getD b .gone) W ∧ ∀ i b, ν i = some b → i < 1 := by
    intro c hvr
    refine ⟨0, fun _ => none, fun _ _ => 0, by omega, fun j hj => by omega, hvr, ⟨fun i => ?_, fun i j b b' _ _ _ h => by simp at h, fun i b _ h => by simp at h, fun i b h => by simp at h⟩, fun i b h => by simp at h⟩
    match i with
    | 0 => exact .inl ⟨rfl, rfl, rfl⟩
    | n + 1 => trivial
  rcases open_slice ht hf with ⟨h0, _⟩ | ⟨a, len', cap', m, n, D, Pl, hcs, hb, hl, hm, hmm, hx, hi⟩
  · simp only [Value.cells] at h0
    simp at h0
    obtain ⟨rfl, rfl, rfl⟩ := h0
    exact empty 0 (by simp only [VR]; exact ⟨none, 0, rfl, by simp, Nat.le_refl _, by omega⟩)
  · simp only [Value.cells] at hcs
    simp at hcs
    obtain ⟨rfl, rfl, rfl⟩ := hcs
    simp only [if_true] at hmm
    subst hmm
    unfold maxLen at hm
    by_cases hz : m = 0
    · subst hz
      have : len = 0 := by omega
      subst this
      exact empty 0 (by simp only [VR]; exact ⟨some a, 0, rfl, by simp, Nat.le_refl _, by omega⟩)
    · have cells : ∀ i, ∃ f, i < m → ok f ∧ ∀ k, k < s → W.cell? ((a.add (i * s)).add k) = (row f)[k]? := by
        intro i
        by_cases him : i < m
        · obtain ⟨cs', h1, h2⟩ := hi i him
          rw [hc] at h1
          obtain ⟨_, h3, h4⟩ := World.cells?_some h1
          obtain ⟨f, h5, h6⟩ := he n cs' _ h3 h2
          exact ⟨f, fun _ => ⟨h5, fun k hk => by rw [h4 k hk, h6]⟩⟩
        · exact ⟨fun _ => 0, fun h => absurd h him⟩
      have get : ∀ i k, i < m → k < s → ∃ x, (row (Classical.choose (cells i)))[k]? = some x := fun i k _ hk => by
        have := (hrow (Classical.choose (cells i))).1
        exact ⟨_, List.getElem?_eq_getElem (by omega)⟩
      obtain ⟨x0, hx0⟩ := get 0 0 (by omega) hs
      have c0 := ((Classical.choose_spec (cells 0)) (by omega)).2 0 hs
      rw [hx0, Nat.zero_mul] at c0
      have hspot : a.spot = none := by
        have := World.cell?_spot c0
        simpa [Addr.add] using this
      obtain ⟨bl, off, sp⟩ := a
      simp only at hspot
      subst hspot
      have e0 : ((⟨bl, off, none⟩ : Addr).add 0).add 0 = ⟨bl, off, none⟩ := by simp [Addr.add]
      rw [e0] at c0
      obtain ⟨o, ho⟩ : ∃ o, W.heap[bl]? = some o := by
        unfold World.cell? at c0
        split at c0
        · exact ⟨_, by assumption⟩
        · cases c0
      obtain ⟨l, t', fz, rfl⟩ : ∃ l t' fz, o = .cells (List.toArray l) t' fz := by
        unfold World.cell? at c0
        simp only [ho] at c0
        cases o with
        | cells c t' fz => exact ⟨c.toList, t', fz, by simp⟩
        | _ => cases c0
      refine ⟨len, fun i => if i = 0 then some ⟨bl, off, m⟩ else none, fun i => Classical.choose (cells i), by omega, fun j hj => ((Classical.choose_spec (cells j)) (by omega)).1, ?_, ⟨fun i => ?_, fun i j b b' hij hw _ h1 h2 => ?_, fun i b hw h1 => ?_, fun i b h1 => ?_⟩, fun i b h1 => ?_⟩
      · simp only [VR]
        exact ⟨_, m, rfl, by simp, hl, fun _ => ⟨_, rfl, by simp⟩⟩
      · match i with
        | 0 =>
          refine .inr ⟨⟨bl, off, m⟩, l, t', fz, rfl, ho, fun h => by simp at h, hl, fun j hj => ⟨hrow _, fun k hk => ?_⟩⟩
          have := ((Classical.choose_spec (cells j)) (by omega)).2 k hk
          rw [← this]
          have e1 : ((⟨bl, off, none⟩ : Addr).add (j * s)).add k = ⟨bl, off + (j * s + k), none⟩ := by
            rw [addr_add, addr_add, Nat.add_assoc]
          rw [e1, cell_at ho]
        | n + 1 => trivial
      · match i with
        | 0 => simp [AB.wr] at hw
        | n + 1 => simp at h1
      · match i with
        | 0 => simp [AB.wr] at hw
        | n + 1 => simp at h1
      · match i with
        | 0 =>
          simp at h1
          subst h1
          exact (Array.getElem?_eq_some_iff.1 ho).1
        | n + 1 => simp at h1
      · match i with
        | 0 => omega
        | n + 1 => simp at h1
end

/-- What a law's run comes to. -/
theorem yes_calls {Γ : Gam} (hΓ : GamOk Try.prog Γ) {Λ : Nat → Option Sum} {n : Nat} {f : FuncId} {fn : Func} {avs : List AV} {H : List AB} {ν : Nu} {vals : List Value} {w : World} (hf : Try.prog.funcs[f]? = some fn)
    (hL : ∀ c, fn.body = some c → LamOk Try.prog H.length Λ c) (h : GoodQ (execF Try.prog Γ Λ n fn avs H (packK H.length)) SaysYes) (hv : VRs ν avs vals) (hH : RH (fun k => w.heap.size ≤ k) ν (fun b => H.getD b .gone) w) (hdom : ∀ i b, ν i = some b → i < H.length) :
    Calls Try.prog f vals.toArray w fun e w' => e = .returned (.bool true) ∧ Below w.heap.size w w' := by
  refine (calls_pack hΓ mixed enters hf hL (fun k hk => hk) h.out hv hH hdom).mono ?_
  rintro e w' ⟨v, av, H', ν', rfl, hq, hvr, _, hfr, _⟩
  have : [av] = [AV.v (.bool true)] := hq
  simp only [List.cons.injEq, and_true] at this
  subst this
  simp only [VR] at hvr
  subst hvr
  exact ⟨rfl, ⟨hfr.os, hfr.tape, hfr.output, hfr.size, fun k hk => hfr.block k hk (by omega)⟩⟩

/-- The words of a row of points, or of bytes. -/
def okI (f : Nat → Int) : Prop := ∀ k, -9223372036854775808 ≤ f k ∧ f k ≤ 9223372036854775807

end Go.Proofs.Ytkbdppnlojlcdaa
