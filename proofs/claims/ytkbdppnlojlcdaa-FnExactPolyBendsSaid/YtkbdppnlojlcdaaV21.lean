/- The abstract machine, 21: a function whose body holds a loop over a function. Conditions: the word of the function that yields. -/
import Derived.Test.YtkbdppnlojlcdaaV19
import Derived.Test.YtkbdppnlojlcdaaV15
namespace Go.Proofs.Ytkbdppnlojlcdaa
open Go.RowKit

def nestL : List Code → Code → Code
  | [], z => z
  | c :: cs, z => .seq c (nestL cs z)
def execL (P : Program) (Γ : Gam) (n : Nat) : List Code → List AV → List AB → Kont → Res
  | [], T, H, K => K .normal T H
  | c :: cs, T, H, K => execC P Γ n noLam c T H (fun e T' H' => match e with
    | .normal => execL P Γ n cs T' H' K
    | _ => .err)

theorem execL_in {P : Program} {Γ : Gam} (hΓ : GamOk P Γ) (hmix : P.follows .mixedOrders = true) (hent : Enters P) (nn n : Nat) {M : Nat → Prop} {w0 : World} {ν0 : Nu} (hM : ∀ k, w0.heap.size ≤ k → M k) {K : Kont} {Q : Ex → List AV → List AB → Prop} {z : Code} {Qw : Exit → Act → World → Prop}
    (hz : ∀ T H a w ν, (K .normal T H).ok Q → SR M w0 ν0 T H a w ν → a.defers = [] → z.wpIn (wideR none) nn P Qw a w) :
    ∀ (cs : List Code), cs.all codeDef = true → ∀ T H a w ν, (execL P Γ n cs T H K).ok Q → SR M w0 ν0 T H a w ν → a.defers = [] → (nestL cs z).wpIn (wideR none) nn P Qw a w
  | [], _, T, H, a, w, ν, h, hS, hd => hz T H a w ν h hS hd
  | c :: cs, hD, T, H, a, w, ν, h, hS, hd => by
    simp only [List.all_cons, Bool.and_eq_true] at hD
    refine wpIn_seq (wpIn_mono (execC_in hΓ hmix hent none nn [] n c hD.1 M w0 ν0 hM T H _ Q a w ν h hS hd) ?_)
    rintro e a' w' ⟨e', T', H', ν', rfl, hk, hS', hd'⟩
    cases e' with
    | normal => exact execL_in hΓ hmix hent nn n hM hz cs hD.2 T' H' a' w' ν' hk hS' hd'
    | exit id => exact hk.elim
    | ret => exact hk.elim

/-- Less is known. -/
theorem SR.less {M : Nat → Prop} {w0 : World} {ν0 : Nu} {T T' : List AV} {H H' : List AB} {a : Act} {w : World} {ν : Nu} (h : SR M w0 ν0 T H a w ν) (hl : T'.length = T.length) (hT : ∀ t, T'.getD t .dead = T.getD t .dead ∨ T'.getD t .dead = .dead) (hn : H'.length = H.length) (hH : ∀ i, H'.getD i .gone = H.getD i .gone ∨ H'.getD i .gone = .gone) : SR M w0 ν0 T' H' a w ν := by
  refine ⟨fun t => ?_, ⟨fun i => ?_, fun i j b b' hne hw hlv => ?_, fun i b hw => ?_, h.heap.lt⟩, h.fr, fun i b hb => by rw [hn]; exact h.dom i b hb, by rw [hl]; exact h.len, h.le⟩
  · rcases hT t with e | e
    · rw [e]; exact h.tmps t
    · rw [e]; simp only [VR]
  · rcases hH i with e | e
    · simp only [e]; exact h.heap.br i
    · simp only [e]; trivial
  · refine h.heap.sep i j b b' hne ?_ ?_
    · rcases hH i with e | e
      · rw [e] at hw; exact hw
      · rw [e] at hw; cases hw
    · rcases hH j with e | e
      · rw [e] at hlv; exact hlv
      · rw [e] at hlv; cases hlv
  · refine h.heap.own i b ?_
    rcases hH i with e | e
    · rw [e] at hw; exact hw
    · rw [e] at hw; cases hw

theorem mask_less {T TT : List AV} {live : List Nat} (h : T = maskT live 0 TT) (t : Nat) : T.getD t .dead = TT.getD t .dead ∨ T.getD t .dead = .dead := by
  subst h
  rw [maskT_get]
  split
  · exact .inl rfl
  · exact .inr rfl

/-- Behind the loop. -/
def behind (P : Program) (Γ : Gam) (n : Nat) (fn : Func) (id : Nat) (rest : Code) (Kc : AV → List AB → Res) : Kont :=
  exitK id (thenK (fun T H => execC P Γ n noLam rest T H (finC P fn Kc)) (finC P fn Kc))

theorem calls_range {α : Type} {P : Program} {Γ : Gam} (hΓ : GamOk P Γ) (hmix : P.follows .mixedOrders = true) (hent : Enters P) {f : FuncId} {fn : Func} (hf : P.funcs[f]? = some fn) {pre : List Code} {p2 rest assign body : Code} {id : Nat} {g : Operand} {ps : Array Tmp}
    (hb : fn.body = some (nestL pre (.seq (.seq p2 (.block id (.rangeFunc g ps assign body))) rest))) (hDp : pre.all codeDef = true) (hD2 : codeDef p2 = true) (hDr : codeDef rest = true) (hDa : codeDef assign = true) (hDb : codeDef body = true) {n nn : Nat}
    {avs : List AV} {TT : List AV} {HH H0 : List AB} {lvp : Ex → List Nat} {gf : Nat} {cs : List AV} {encs : α → List Value} {S Sp : List α → Prop} {N : Nat} {Q : Ex → List AV → List AB → Prop}
    (hpre : (execL P Γ n (pre ++ [p2]) (avs ++ List.replicate (fn.ntmps - avs.length) (.v undef)) H0 (leafK lvp H0.length)).ok (fun e T' H' => e = .normal ∧ T' = TT ∧ H' = HH)) (hg : evA TT g = .fn gf cs)
    (T : List AV) (hTl : T.length = TT.length) (hT : ∀ t, T.getD t .dead = TT.getD t .dead ∨ T.getD t .dead = .dead) (lv : Ex → Bool) (hp : List α → List AB) (hx : Ex → List α → List AB) (hHl : (hp []).length = HH.length) (hH : ∀ i, (hp []).getD i .gone = HH.getD i .gone ∨ (hp []).getD i .gone = .gone)
    (eg : ∀ args w, (callFunc gf args).run P w = .ok (.enter gf args) w)
    (hIter : ∀ W ν1 a1 lb, SR (ownM W ν1 HH) W ν1 TT HH a1 W ν1 → VRs ν1 cs lb → SeqStopsK (wideR none) nn P gf lb.toArray (fun x => (encs x).toArray) (keepR W (ownM W ν1 (hp []))) S Sp N W)
    (hps : ∀ x, (encs x).length = ps.size) (hpT : ∀ p ∈ ps.toList, p < T.length)
    (hround : ∀ pre x, pre.length < N → (execC P Γ n noLam assign (parT ps.toList (encs x) T) (hp pre) (andK P Γ n body HH.length)).ok (RoundQ lv hp hx (pre ++ [x])))
    (hdone : ∀ xs, S xs → (behind P Γ n fn id rest (packK H0.length) .normal T (hp xs)).ok Q)
    (hleave : ∀ e pre, e ≠ .normal → lv e = true → Sp pre → (behind P Γ n fn id rest (packK H0.length) e T (hx e pre)).ok Q) :
    ∀ (M : Nat → Prop) (vals : List Value) (w : World) (ν : Nu), (∀ k, w.heap.size ≤ k → M k) → VRs ν avs vals → RH M ν (fun b => H0.getD b .gone) w → (∀ i b, ν i = some b → i < H0.length) →
      Calls P f vals.toArray w (RetG Q M ν w) := by
  intro M vals w ν hM hv hR hdom
  rw [← callsIn_wide (n := nn + 1), ← wideR_none]
  refine callsIn_of_wp_marks hf hb trivial ?_
  have hst := start_sr (fn := fn) hv hR hdom
  -- the end of the function, deferred calls and all
  have leave : ∀ (e : Exit) (e' : Ex) (D : Nat) (T' : List AV) (H' : List AB) (a' : Act) (w' : World) (ν' : Nu), (e = .normal ∨ e = .ret) → a'.defers = [{ target := .collected D, args := #[] }] → (finC P fn (packK H0.length) .ret T' H').ok Q → SR M w ν T' H' a' w' ν' → w.heap.size ≤ D → w'.heap[D]? = some (.deferred (some [])) →
      bodyPostM (wideR none) (nn + 1) P fn (RetG Q M ν w) e a' w' := by
    intro e e' D T' H' a' w' ν' he hd hk hS hDl hDd
    have key : LeavesInM (wideR none) (nn + 1) P fn a'.tmps (RetG Q M ν w) a'.defers .returning w' := by
      rw [hd]
      refine ⟨by simp, .inl ⟨D, _, rfl, run_takeDeferred hDd, ?_⟩⟩
      have hS' := hS.turn (w' := w'.putObj D (.deferred none)) hM (grownBy_putObj' w' D _) fun r e => by
        cases e
        exact ⟨hDl, _, hDd, rfl⟩
      simp only [finC] at hk
      split at hk
      · rename_i vs ob hres
        obtain ⟨h1, h2⟩ := needs_ok hk
        obtain ⟨v, h3, h4⟩ := results_run hS'.tmps hS'.heap.br hres h1
        refine ⟨v, h3, ?_⟩
        unfold packK at h2
        split at h2
        · rename_i p hp'
          have hSo : SR M w ν [oneA vs] H' { tmps := #[v], defers := [] } (w'.putObj D (.deferred none)) ν' := by
            refine ⟨fun t => ?_, hS'.heap, hS'.fr, hS'.dom, by simp, hS'.le⟩
            cases t with
            | zero => simpa using h4
            | succ t => simp only [List.getD_cons_succ, List.getD_nil, VR]
          have hW := weak_sound hp' hSo hdom
          have hp1 : p.1.length = 1 := by
            have := hp'
            unfold weak at this
            split at this
            · rename_i T1 H1 hT hH1
              cases hc : (nodupB (keepOf H0.length (maskT [0] 0 [oneA vs]) H') && (keepOf H0.length (maskT [0] 0 [oneA vs]) H').take H0.length == upN 0 H0.length) with
              | false => rw [hc] at this; cases this
              | true =>
                rw [hc] at this
                cases this
                have := renAs_length hT
                simpa [maskT] using this
            · cases this
          match hp2 : p.1, hp1 with
          | [av'], _ =>
            rw [hp2] at h2 hW
            exact ⟨v, av', p.2, _, rfl, h2, by simpa using hW.tmps 0, hW.heap, hW.fr, hW.le, hW.dom⟩
        · exact h2.elim
      · exact hk.elim
    rcases he with rfl | rfl
    · exact key
    · exact key
  -- behind the loop: from what holds there
  have after : ∀ (e : Ex) (D : Nat) (T' : List AV) (H' : List AB) (a' : Act) (w' : World) (ν' : Nu), a'.defers = [{ target := .collected D, args := #[] }] → (behind P Γ n fn id rest (packK H0.length) e T' H').ok Q → SR M w ν T' H' a' w' ν' → w.heap.size ≤ D → w'.heap[D]? = some (.deferred (some [])) →
      Exit.inBlock id (Exit.then (rest.wpIn (wideR none) (nn + 1) P (bodyPostM (wideR none) (nn + 1) P fn (RetG Q M ν w))) (bodyPostM (wideR none) (nn + 1) P fn (RetG Q M ν w))) (Ex.to e) a' w' := by
    intro e D T' H' a' w' ν' hd hk hS hDl hDd
    have run : (execC P Γ n noLam rest T' H' (finC P fn (packK H0.length))).ok Q → rest.wpIn (wideR none) (nn + 1) P (bodyPostM (wideR none) (nn + 1) P fn (RetG Q M ν w)) a' w' := by
      intro hk
      refine wpIn_mono (execC_in hΓ hmix hent none (nn + 1) _ n rest hDr (ownM w' ν' H') w' ν' (fun k hk => .inl hk) T' H' _ Q a' w' ν' hk hS.rebase hd) ?_
      rintro e a2 w2 ⟨e2, T2, H2, ν2, rfl, hk2, hS2, hd2⟩
      have hD2 : w2.heap[D]? = some (.deferred (some [])) := (hS2.fr.block D (Array.getElem?_eq_some_iff.1 hDd).1 (hS.own_cells hDd rfl)).trans hDd
      have hS3 := hS.unbase hM hS2
      cases e2 with
      | normal => exact leave _ .normal D T2 H2 a2 w2 ν2 (.inl rfl) hd2 hk2 hS3 hDl hD2
      | ret => exact leave _ .ret D T2 H2 a2 w2 ν2 (.inr rfl) hd2 hk2 hS3 hDl hD2
      | exit j => exact hk2.elim
    cases e with
    | normal => exact run hk
    | ret => exact leave .ret .ret D T' H' a' w' ν' (.inr rfl) hd hk hS hDl hDd
    | exit j =>
      simp only [behind, exitK] at hk
      simp only [Ex.to, Exit.inBlock]
      cases hj : Nat.beq j id with
      | true =>
        rw [hj] at hk
        rw [if_pos (Nat.eq_of_beq_eq_true hj)]
        exact run hk
      | false =>
        rw [hj] at hk
        exact hk.elim
  have hpre' : (execL P Γ n pre (avs ++ List.replicate (fn.ntmps - avs.length) (.v undef)) H0 (fun e T' H' => match e with
      | .normal => execL P Γ n [p2] T' H' (leafK lvp H0.length)
      | _ => .err)).ok (fun e T' H' => e = .normal ∧ T' = TT ∧ H' = HH) := by
    have app : ∀ (l : List Code) (T : List AV) (H : List AB), execL P Γ n (l ++ [p2]) T H (leafK lvp H0.length) = execL P Γ n l T H (fun e T' H' => match e with
      | .normal => execL P Γ n [p2] T' H' (leafK lvp H0.length)
      | _ => .err) := by
      intro l
      induction l with
      | nil => intro T H; rfl
      | cons c l ih =>
        intro T H
        simp only [List.cons_append, execL]
        congr 1
        funext e T' H'
        cases e with
        | normal => exact ih T' H'
        | _ => rfl
    rw [← app]
    exact hpre
  refine execL_in hΓ hmix hent (nn + 1) n hM (fun T2 H2 a2 w2 ν2 hk2 hS2 hd2 => ?_) pre hDp _ _ _ _ _ hpre' hst rfl
  refine wpIn_seq (wpIn_seq (wpIn_mono (execC_in hΓ hmix hent none (nn + 1) [] n p2 hD2 M w ν hM T2 H2 _ _ a2 w2 ν2 hk2 hS2 hd2) ?_))
  rintro e a3 w3 ⟨e3, T3, H3, ν3, rfl, hk3, hS3, hd3⟩
  cases e3 with
  | exit j => exact hk3.elim
  | ret => exact hk3.elim
  | normal =>
    simp only [execL] at hk3
    unfold leafK at hk3
    split at hk3
    · rename_i p hwk
      obtain ⟨_, hp1, hp2⟩ := hk3
      have hS4 := weak_sound hwk hS3 hdom
      rw [hp1, hp2] at hS4
      generalize keepNu (keepOf H0.length (maskT (lvp .normal) 0 T3) H3) ν3 = ν4 at hS4
      have hSr := hS4.rebase
      have hgv : VR ν4 (.fn gf cs) (a3.eval g) := by
        have := evA_sound (T := TT) (a := a3) (ν := ν4) (z := g) fun t _ => hS4.tmps t
        rw [hg] at this
        exact this
      simp only [VR] at hgv
      obtain ⟨lb, hlb, hvs⟩ := hgv
      have hS5 : SR (ownM w3 ν4 (hp [])) w3 ν4 T (hp []) a3 w3 ν4 := (hS4.less (T' := T) (H' := hp []) hTl hT hHl hH).rebase
      have hS5M : SR M w ν T (hp []) a3 w3 ν4 := hS4.less (T' := T) (H' := hp []) hTl hT hHl hH
      show (Code.block id (.rangeFunc g ps assign body)).wpIn (wideR none) (nn + 1) P _ a3 w3
      refine wpIn_block ?_
      have sz := hS4.fr.size
      refine range_law hΓ hmix hent hlb eg lv hp hx hDa hDb hHl hS5 (hIter w3 ν4 a3 lb hSr hvs) hps hpT hround (fun D xs W ν' hD hs hS hDd => ?_) (fun D e pre W ν' hD hne hlv hs hS hDd => ?_)
      · refine after .normal D T (hp xs) _ W ν' (by rw [← hd3]) (hdone xs hs) ?_ (by omega) hDd
        have := hS5M.unbase hM hS
        exact ⟨this.tmps, this.heap, this.fr, this.dom, this.len, this.le⟩
      · refine after e D T (hx e pre) _ W ν' (by rw [← hd3]) (hleave e pre hne hlv hs) ?_ (by omega) hDd
        have := hS5M.unbase hM hS
        exact ⟨this.tmps, this.heap, this.fr, this.dom, this.len, this.le⟩
    · exact hk3.elim

end Go.Proofs.Ytkbdppnlojlcdaa
