/- The abstract machine, 18: code, in a frame of a round of a loop over a function. Conditions: those of the table of callees. -/
import Derived.Test.YtkbdppnlojlcdaaV17
namespace Go.Proofs.Ytkbdppnlojlcdaa
open Go.RowKit

theorem execC_in {P : Program} {Γ : Gam} (hΓ : GamOk P Γ) (hmix : P.follows .mixedOrders = true) (hent : Enters P) (r : Option Nat) (nn : Nat) (ds : List Deferred) : ∀ (n : Nat) (c : Code), codeDef c = true → ∀ (M : Nat → Prop) (w0 : World) (ν0 : Nu), (∀ k, w0.heap.size ≤ k → M k) → ∀ (T : List AV) (H : List AB) (K : Kont) (Q : Ex → List AV → List AB → Prop) (a : Act) (w : World) (ν : Nu),
    (execC P Γ n noLam c T H K).ok Q → SR M w0 ν0 T H a w ν → a.defers = ds → c.wpIn (wideR r) nn P (postD ds M w0 ν0 K Q) a w := by
  intro n
  induction n with
  | zero => intro c _ M w0 ν0 hM T H K Q a w ν h; exact h.elim
  | succ n ih =>
    intro c hD M w0 ν0 hM T H K Q a w ν h hS hd
    have halt : ∀ e, (K e T H).ok Q → postD ds M w0 ν0 K Q (Ex.to e) a w := fun e hk => ⟨e, T, H, ν, rfl, hk, hS, hd⟩
    cases c with
    | skip => exact wpIn_skip (halt .normal h)
    | label l => exact wpIn_label (halt .normal h)
    | region id ops draw =>
      cases draw with
      | true =>
        simp only [execC, cond_true] at h
        obtain ⟨es, T', H', r1, h2⟩ := execOps_run h
        rcases cond_ok h2 with ⟨hc, h2⟩ | ⟨_, h2⟩
        · have hB : drawOk ops.toList es = true := by simpa using hc
          refine wpIn_region_any hmix ?_
          have hS' : SR M w0 ν0 T H a { w with drawn := w.drawn + 1 } ν := ⟨hS.tmps, ⟨fun i => (hS.heap.br i).of_block fun _ _ _ => rfl, hS.heap.sep, hS.heap.own, hS.heap.lt⟩, hS.fr.drew, hS.dom, hS.len, hS.le⟩
          have := any_sound (Q := postD ds M w0 ν0 K Q) hΓ hM r1 hB hS' fun a' w' ν' h' hd' => ⟨.normal, T', H', ν', rfl, h2, h', hd'.trans hd⟩
          exact wpAny_in hD postD_out (by simpa using this)
        · exact h2.elim
      | false =>
        refine wpIn_region ?_
        simp only [execC, cond_false] at h
        have := seqS_sound (Qw := postD ds M w0 ν0 K Q) (all := ops.toList) hΓ hM (Q := Q) (fun g avs H' Kc vals w' ν' hc hv hH hdom hM' => ?_) ops.toList 0 T H a w ν rfl h hS fun T' H' a' w' ν' hk hS' hd' => ⟨.normal, T', H', ν', rfl, hk, hS', hd'.trans hd⟩
        · refine wpOps_in hD postD_out ?_
          rw [← List.range_eq_range'] at this
          simpa using this
        · split at hc
          · rename_i fn hf
            split at hc
            · rename_i c' hb
              rw [fcAs_eq] at hc
              refine ⟨fun args w => hent g fn hf (by rw [hb]; rfl) args w, ?_⟩
              refine calls_of_wp hf hb (wp_mono (execC_sound hΓ hmix hent n H'.length (fun _ => none) c' (fun _ _ h => by cases h) M w' ν' hM' hdom _ H' (finC P fn Kc) Q _ w' ν' hc (start_sr hv hH hdom) rfl) fun e a' w'' hp => ?_)
              exact fin_post hp
            · exact hc.elim
          · exact hc.elim
    | seq x y =>
      simp only [codeDef, Bool.and_eq_true] at hD
      exact wpIn_seq (wpIn_mono (ih x hD.1 M w0 ν0 hM T H _ Q a w ν h hS hd) fun e a' w' hp => postD_then hp fun T' H' ν' hk hS' hd' => ih y hD.2 M w0 ν0 hM T' H' K Q a' w' ν' hk hS' hd')
    | cond c x y =>
      simp only [codeDef, Bool.and_eq_true] at hD
      simp only [execC] at h
      split at h
      · rename_i q hq
        have hv : a.eval c = .bool q := by
          have := evA_sound (T := T) (a := a) (ν := ν) (z := c) fun t _ => hS.tmps t
          rw [hq] at this
          simpa only [VR] using this
        refine wpIn_cond hv ?_
        rcases cond_ok h with ⟨rfl, h⟩ | ⟨rfl, h⟩
        · rw [setC_same hq] at h
          exact ih x hD.1 M w0 ν0 hM T H K Q a w ν h hS hd
        · rw [setC_same hq] at h
          exact ih y hD.2 M w0 ν0 hM T H K Q a w ν h hS hd
      · exact h.elim
    | block id b =>
      simp only [codeDef] at hD
      simp only [execC] at h
      exact wpIn_block (wpIn_mono (ih b hD M w0 ν0 hM T H _ Q a w ν h hS hd) fun e a' w' hp => postD_exit hp)
    | loop b =>
      simp only [codeDef] at hD
      simp only [execC] at h
      refine wpIn_loop_rounds n ?_
      have key : ∀ (m : Nat) (T : List AV) (H : List AB) (a : Act) (w : World) (ν : Nu), (iter (execC P Γ n noLam b) m T H K).ok Q → SR M w0 ν0 T H a w ν → a.defers = ds → Code.roundsIn (wideR r) nn P b (postD ds M w0 ν0 K Q) m a w := by
        intro m
        induction m with
        | zero => intro T H a w ν h; exact h.elim
        | succ m ihm =>
          intro T H a w ν h hS hd
          rw [roundsIn_succ]
          exact wpIn_mono (ih b hD M w0 ν0 hM T H _ Q a w ν h hS hd) fun e a' w' hp => postD_then hp fun T' H' ν' hk hS' hd' => ihm T' H' a' w' ν' hk hS' hd'
      exact key n T H a w ν h hS hd
    | exit id => exact wpIn_exit (halt (.exit id) h)
    | ret => exact wpIn_ret (halt .ret h)
    | _ => simp only [execC] at h; exact h.elim

end Go.Proofs.Ytkbdppnlojlcdaa
