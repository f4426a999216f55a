/- The abstract machine, 7: one operation does what its word says. Conditions: those of the table of callees. -/
import Derived.Test.YtkbdppnlojlcdaaV6
namespace Go.Proofs.Ytkbdppnlojlcdaa
open Go.RowKit

theorem wp_val {P : Program} {o : Oper} {a : Act} {w w' : World} {next : Act → World → Prop} {Q : Exit → Act → World → Prop} {v : Value} (h : (execOp a.eval o).run P w = .ok (.value v) w') (hn : next (a.put o.dst v) w') : o.wp P a w next Q := by
  unfold Oper.wp
  rw [h]
  exact hn

theorem wp_skip' {P : Program} {o : Oper} {a : Act} {w w' : World} {next : Act → World → Prop} {Q : Exit → Act → World → Prop} (h : (execOp a.eval o).run P w = .ok .skip w') (hn : next (a.put o.dst undef) w') : o.wp P a w next Q := by
  unfold Oper.wp
  rw [h]
  exact hn

theorem VRs_map {ν : Nu} {ρ : Operand → AV} {σ : Operand → Value} : ∀ {l : List Operand}, (∀ x ∈ l, VR ν (ρ x) (σ x)) → VRs ν (l.map ρ) (l.map σ)
  | [], _ => by simp only [List.map_nil, VRs]
  | x :: l, h => by
    simp only [List.map_cons, VRs]
    exact ⟨h x List.mem_cons_self, VRs_map fun y hy => h y (List.mem_cons_of_mem _ hy)⟩

theorem lenA_plain {P : Program} {t : TypeId} {x : AV} {δ : Delta} (h : lenA P t x = some δ) : δ.put = [] ∧ δ.new = [] := by
  unfold lenA at h
  repeat (first | exact pureA_plain h | split at h | (simp only [Option.some.injEq] at h; subst h; exact ⟨rfl, rfl⟩) | cases h)

theorem lenA_sound {P : Program} {t ty : TypeId} {x : AV} {δ : Delta} {ν : Nu} {y : Value} {w : World} (h : lenA P t x = some δ) (hx : VR ν x y) : ∃ v, (Builtin.len_ #[t] ty #[y]).run P w = .ok v w ∧ VR ν δ.val v := by
  unfold lenA at h
  split at h
  · rename_i e i len hu
    simp only [Option.some.injEq] at h
    subst h
    simp only [VR] at hx
    obtain ⟨b, _, rfl⟩ := hx
    exact ⟨.int .i64 len, by simp [Builtin.len_, run_underlying hu, goInt], by simp only [VR]⟩
  · rename_i e i wd j k len cap hu
    simp only [Option.some.injEq] at h
    subst h
    simp only [VR] at hx
    obtain ⟨p, c, rfl, _⟩ := hx
    exact ⟨.int .i64 len, by simp [Builtin.len_, run_underlying hu, goInt], by simp only [VR]⟩
  · split at h
    · rename_i v hv
      have := VR_toV hv hx
      subst this
      exact pureA_sound h ν w
    · cases h

/-- ONE OPERATION. -/
theorem opA_sound {P : Program} {Γ : Gam} (hΓ : GamOk P Γ) {o : Oper} {a : Act} {T : List AV} {H : List AB} {base : Nat} {δ : Delta} {ν : Nu} {w : World} {next : Act → World → Prop} {Q : Exit → Act → World → Prop}
    (h : opA P Γ o T H base = some δ) (ho : obls δ.obl = true) (hT : ∀ x ∈ o.op.operands, VR ν (evA T x) (a.eval x)) (hr : ∀ i ∈ δ.rd, BR ν i (H.getD i .gone) w) (hlt : ∀ i b, ν i = some b → b.n < w.heap.size)
    (hb : ∀ j, j < δ.new.length → ν (base + j) = none) (hsep : Seps ν H δ) (hn : ∀ v w' ν', Did ν ν' base δ w w' v → next (a.put o.dst v) w') : o.wp P a w next Q := by
  have same : ∀ (s : Sem Value), (∃ v, s.run P w = .ok v w ∧ VR ν δ.val v) → δ.put = [] → δ.new = [] → (execOp a.eval o = (do pure (.value (← s)) : Sem Next)) → o.wp P a w next Q := by
    rintro s ⟨v, h1, h2⟩ hp hn' he
    refine wp_val (v := v) (w' := w) ?_ (hn v w ν (Did.same h2 hp hn'))
    rw [he]
    simp [h1]
  have made : ∀ (s : Sem Value), (∃ v w' ν', s.run P w = .ok v w' ∧ Did ν ν' base δ w w' v) → (execOp a.eval o = (do pure (.value (← s)) : Sem Next)) → o.wp P a w next Q := by
    rintro s ⟨v, w', ν', h1, h2⟩ he
    refine wp_val (v := v) (w' := w') ?_ (hn v w' ν' h2)
    rw [he]
    simp [h1]
  obtain ⟨dst, op, ty, pos, after, guard⟩ := o
  cases op with
  | move x =>
    simp only [opA, Option.some.injEq] at h
    subst h
    exact same (pure (a.eval x)) ⟨_, rfl, hT x (by simp [Op.operands])⟩ rfl rfl (by simp [execOp])
  | assign x =>
    simp only [opA, Option.some.injEq] at h
    subst h
    exact same (pure (a.eval x)) ⟨_, rfl, hT x (by simp [Op.operands])⟩ rfl rfl (by simp [execOp])
  | pick c x y =>
    simp only [opA] at h
    split at h
    · rename_i q hq
      simp only [Option.some.injEq] at h
      subst h
      have hc := hT c (by simp [Op.operands])
      rw [hq] at hc
      simp only [VR] at hc
      refine wp_val (v := if q then a.eval x else a.eval y) (w' := w) ?_ (hn _ w ν (Did.same (pickA_sound (hT x (by simp [Op.operands])) (hT y (by simp [Op.operands]))) rfl rfl))
      simp [execOp, hc, asBool]
    · cases h
  | alloc t =>
    simp only [opA] at h
    have hb0 : ν base = none := by
      have : δ.new.length = 1 := by
        unfold allocA boxA at h
        repeat (first | split at h | (simp only [Option.map_eq_some_iff] at h; obtain ⟨c, _, rfl⟩ := h; rfl) | cases h)
      simpa using hb 0 (by omega)
    exact made _ (allocA_sound h hb0) rfl
  | box t x =>
    simp only [opA] at h
    have hb0 : ν base = none := by
      have : δ.new.length = 1 := by
        unfold boxA at h
        simp only [Option.map_eq_some_iff] at h; obtain ⟨c, _, rfl⟩ := h; rfl
      simpa using hb 0 (by omega)
    exact made _ (boxA_sound h (hT x (by simp [Op.operands])) hb0) rfl
  | build t parts =>
    simp only [opA] at h
    split at h
    · rename_i ps hps
      have := partsV_sound (ν := ν) (σ := a.eval) hps (fun p hp => hT p.2 (by simp only [Op.operands, List.mem_toArray]; exact List.mem_map.2 ⟨p, hp, rfl⟩))
      have e : (parts.map fun (i, x) => (i, a.eval x)) = ps.toArray := by
        rw [← this]
        apply Array.ext'
        simp
      refine same _ (pureA_sound h ν w) (pureA_plain h).1 (pureA_plain h).2 ?_
      rw [← e]
      rfl
    · cases h
  | buildSlice t len parts =>
    simp only [opA] at h
    split at h
    · rename_i ps hps
      have := partsV_sound (ν := ν) (σ := a.eval) hps (fun p hp => hT p.2 (by simp only [Op.operands, List.mem_toArray]; exact List.mem_map.2 ⟨p, hp, rfl⟩))
      have e : (parts.map fun (i, x) => (i, a.eval x)) = ps.toArray := by
        rw [← this]
        apply Array.ext'
        simp
      have hb0 : ν base = none := by
        have : δ.new.length = 1 := by
          unfold buildSliceA at h
          repeat (first | split at h | (simp only [Option.some.injEq] at h; subst h; rfl) | cases h)
        simpa using hb 0 (by omega)
      refine made _ (buildSliceA_sound h ho hb0) ?_
      rw [← e]
      rfl
    · cases h
  | load t x =>
    simp only [opA] at h
    exact same _ (loadA_sound h ho (hT x (by simp [Op.operands])) hr) (loadA_plain h).1 (loadA_plain h).2 rfl
  | store t x y =>
    simp only [opA] at h
    obtain ⟨w', h1, h2⟩ := storeA_sound (base := base) h ho (hT x (by simp [Op.operands])) (hT y (by simp [Op.operands])) hr
    refine wp_skip' (w' := w') ?_ (hn _ w' ν h2)
    simp [execOp, h1]
  | nilCheck x =>
    simp only [opA] at h
    split at h
    · rename_i i wd j k hx
      simp only [Option.some.injEq] at h
      subst h
      have hv := hT x (by simp [Op.operands])
      rw [hx] at hv
      have hv' := hv
      simp only [VR] at hv
      obtain ⟨b, hb1, hb2⟩ := hv
      refine wp_val (v := a.eval x) (w' := w) ?_ (hn _ w ν (Did.same hv' rfl rfl))
      simp [execOp, hb2]
    · cases h
  | binOp op t x y yt =>
    simp only [opA] at h
    exact same _ (binA_sound h ho (hT x (by simp [Op.operands])) (hT y (by simp [Op.operands])) w) (binA_plain h).1 (binA_plain h).2 rfl
  | unOp op t x =>
    simp only [opA] at h
    split at h
    · rename_i v hv
      have := VR_toV hv (hT x (by simp [Op.operands]))
      subst this
      exact same _ (pureA_sound h ν w) (pureA_plain h).1 (pureA_plain h).2 rfl
    · cases h
  | convert s d x =>
    simp only [opA] at h
    split at h
    · rename_i v hv
      have := VR_toV hv (hT x (by simp [Op.operands]))
      subst this
      exact same _ (pureA_sound h ν w) (pureA_plain h).1 (pureA_plain h).2 rfl
    · cases h
  | makeFunc fn first cap =>
    cases fn with
    | func f' =>
      simp only [opA] at h
      split at h
      · rename_i h0
        simp only [Option.some.injEq] at h
        subst h
        have hf : first = #[] := Array.size_eq_zero_iff.1 h0
        subst hf
        refine same (Instr.makeFunc (.func f') (#[].map a.eval) (cap.map a.eval)) ⟨.func (.func f') #[] (cap.map a.eval), by simp [Instr.makeFunc], ?_⟩ rfl rfl rfl
        simp only [VR]
        refine ⟨cap.toList.map a.eval, ?_, VRs_map fun x hx => hT x (by simp [Op.operands]; simpa using hx)⟩
        congr 1
        apply Array.ext'
        simp
      · cases h
    | _ => simp only [opA] at h; cases h
  | makeSlice t l c =>
    simp only [opA] at h
    split at h
    · rename_i k1 l' k2 c' hl hc
      have e1 := hT l (by simp [Op.operands])
      have e2 := hT c (by simp [Op.operands])
      rw [hl] at e1
      rw [hc] at e2
      simp only [VR] at e1 e2
      have hb0 : ν base = none := by
        have : δ.new.length = 1 := by
          unfold makeSliceA at h
          repeat (first | split at h | (simp only [Option.some.injEq] at h; subst h; rfl) | cases h)
        simpa using hb 0 (by omega)
      refine made _ (makeSliceA_sound (kl := k1) (kc := k2) h ho hb0) ?_
      rw [← e1, ← e2]
      rfl
    · cases h
  | slice t x lo hi mx =>
    simp only [opA] at h
    have bnd : ∀ q : Option Operand, (∀ z, q = some z → z ∈ (Op.slice t x lo hi mx).operands) → BndOk ν (q.map (evA T)) (q.map a.eval) := by
      intro q hq
      cases q with
      | none => exact .none
      | some z => exact .some (hT z (hq z rfl))
    refine same _ (sliceA_sound (w := w) h ho (hT x (by simp [Op.operands])) (bnd lo ?_) (bnd hi ?_) (bnd mx ?_) hr) (sliceA_plain h).1 (sliceA_plain h).2 rfl
    all_goals (rintro z rfl; simp [Op.operands])
  | fieldAddr s x f =>
    simp only [opA, Option.map_eq_some_iff] at h
    obtain ⟨r, h1, rfl⟩ := h
    exact same _ (fieldAddrA_sound h1 (hT x (by simp [Op.operands]))) rfl rfl rfl
  | field s x f =>
    simp only [opA, Option.map_eq_some_iff] at h
    obtain ⟨r, h1, rfl⟩ := h
    exact same _ (fieldA_sound h1 (hT x (by simp [Op.operands]))) rfl rfl rfl
  | indexAddr t x ix =>
    simp only [opA] at h
    exact same _ (indexAddrA_sound h ho (hT x (by simp [Op.operands])) (hT ix (by simp [Op.operands]))) (indexAddrA_plain h).1 (indexAddrA_plain h).2 rfl
  | index t x ix =>
    simp only [opA, Option.map_eq_some_iff] at h
    obtain ⟨⟨r, ob⟩, h1, rfl⟩ := h
    exact same _ (indexA_sound h1 ho (hT x (by simp [Op.operands])) (hT ix (by simp [Op.operands]))) rfl rfl rfl
  | extract x ix =>
    simp only [opA] at h
    have hx := hT x (by simp [Op.operands])
    split at h
    · rename_i cs hcs
      simp only [Option.map_eq_some_iff] at h
      obtain ⟨r, h1, rfl⟩ := h
      rw [hcs] at hx
      simp only [VR] at hx
      obtain ⟨l, h2, h3⟩ := hx
      obtain ⟨y, hy, hr'⟩ := h3.get h1
      refine same (Instr.extract (a.eval x) ix) ⟨y, ?_, hr'⟩ rfl rfl rfl
      simp [Instr.extract, h2, hy]
    · rename_i arr hcs
      simp only [Option.map_eq_some_iff] at h
      obtain ⟨r, h1, rfl⟩ := h
      rw [hcs] at hx
      simp only [VR] at hx
      refine same (Instr.extract (a.eval x) ix) ⟨r, ?_, by simp only [VR]⟩ rfl rfl rfl
      have : arr[ix]? = some r := by simpa using h1
      simp [Instr.extract, hx, this]
    · cases h
  | call c =>
    simp only [opA, callA] at h
    obtain ⟨callee, args, ats⟩ := c
    have hargs : VRs ν (args.toList.map (evA T)) (args.toList.map a.eval) := VRs_map fun x hx => hT x (by simp [Op.operands, Call.operands]; right; simpa using hx)
    cases callee with
    | value f =>
      simp only at h
      have hf := hT f (by simp [Op.operands, Call.operands])
      split at h
      · rename_i g caps hg
        obtain ⟨l, h2, h3⟩ := fnOf_sound hg hf
        split at h
        · rename_i S hS
          obtain ⟨s1, s2⟩ := hΓ g S hS
          have hc := s2 _ _ _ _ _ _ _ h ho (hargs.append h3) hr hlt hb hsep
          unfold Oper.wp
          have he : (execOp a.eval ⟨dst, .call ⟨.value f, args, ats⟩, ty, pos, after, guard⟩).run P w = .ok (.enter g (args.toList.map a.eval ++ l).toArray) w := by
            have e : (args.map a.eval ++ l.toArray) = (args.toList.map a.eval ++ l).toArray := by
              apply Array.ext'
              simp
            rw [← e]
            simp [execOp, resolve, h2, Deferred.ofValue, invoke, s1]
          rw [he]
          simp only [Oper.upon]
          refine hc.mono ?_
          rintro e w' ⟨v, ν', rfl, hd⟩
          exact hn v w' ν' hd
        · cases h
      · cases h
    | invoke r m => cases h
    | builtin b =>
      simp only at h
      have hb1 : ∀ (s : Sem Value), (execOp a.eval ⟨dst, .call ⟨.builtin b, args, ats⟩, ty, pos, after, guard⟩ = (do pure (.value (← s)) : Sem Next)) → (execOp a.eval ⟨dst, .call ⟨.builtin b, args, ats⟩, ty, pos, after, guard⟩ = (do pure (.value (← s)) : Sem Next)) := fun _ h => h
      cases b <;> simp only [builtinA] at h <;> first | cases h | skip
      case append =>
        split at h
        · rename_i s x t t' hA hts
          split at h
          · rename_i htt
            subst htt
            have e1 : args.map a.eval = #[(args.toList.map a.eval).getD 0 undef, (args.toList.map a.eval).getD 1 undef] := by
              have := hargs.length
              rw [hA] at this
              apply Array.ext'
              simp only [Array.toList_map]
              match hL : args.toList.map a.eval, this with
              | [p, q], _ => rfl
            have e2 : ats = #[t, t] := by apply Array.ext'; simpa using hts
            rw [hA] at hargs
            have hv : VR ν s ((args.toList.map a.eval).getD 0 undef) ∧ VR ν x ((args.toList.map a.eval).getD 1 undef) := by
              match hL : args.toList.map a.eval, hargs with
              | [p, q], hh => simp only [VRs] at hh; exact ⟨hh.1, hh.2.1⟩
            have hb0 : ν base = none := by
              have : δ.new.length = 1 := by
                unfold appendA at h
                repeat (first | split at h | (simp only [Option.some.injEq] at h; subst h; rfl) | cases h)
              simpa using hb 0 (by omega)
            refine made _ (appendA_sound (ty := ty) h ho hv.1 hv.2 hb0 hr hlt) ?_
            subst e2
            simp only [execOp, resolve, e1]
            rfl
          · cases h
        · cases h
      case copy =>
        split at h
        · rename_i s x t t' hA hts
          have e1 : args.map a.eval = #[(args.toList.map a.eval).getD 0 undef, (args.toList.map a.eval).getD 1 undef] := by
            have := hargs.length
            rw [hA] at this
            apply Array.ext'
            simp only [Array.toList_map]
            match hL : args.toList.map a.eval, this with
            | [p, q], _ => rfl
          have e2 : ats = #[t, t'] := by apply Array.ext'; simpa using hts
          rw [hA] at hargs
          have hv : VR ν s ((args.toList.map a.eval).getD 0 undef) ∧ VR ν x ((args.toList.map a.eval).getD 1 undef) := by
            match hL : args.toList.map a.eval, hargs with
            | [p, q], hh => simp only [VRs] at hh; exact ⟨hh.1, hh.2.1⟩
          obtain ⟨v, w', h1, h2⟩ := copyA_sound (t' := t') (ty := ty) (base := base) h ho hv.1 hv.2 hr (fun hs hn hx => one_of_rows hs hn hx)
          refine made _ ⟨v, w', ν, h1, h2⟩ ?_
          subst e2
          simp only [execOp, resolve, e1]
          rfl
        · cases h
      case len =>
        split at h
        · rename_i x t hA hts
          have e1 : args.map a.eval = #[(args.toList.map a.eval).getD 0 undef] := by
            have := hargs.length
            rw [hA] at this
            apply Array.ext'
            simp only [Array.toList_map]
            match hL : args.toList.map a.eval, this with
            | [p], _ => rfl
          have e2 : ats = #[t] := by apply Array.ext'; simpa using hts
          rw [hA] at hargs
          have hv : VR ν x ((args.toList.map a.eval).getD 0 undef) := by
            match hL : args.toList.map a.eval, hargs with
            | [p], hh => simp only [VRs] at hh; exact hh.1
          refine same _ (lenA_sound (ty := ty) h hv) (lenA_plain h).1 (lenA_plain h).2 ?_
          subst e2
          simp only [execOp, resolve, e1]
          rfl
        · cases h
      case max =>
        split at h
        · rename_i vs hvs
          have := VR_toVs hvs hargs
          refine same _ (pureA_sound h ν w) (pureA_plain h).1 (pureA_plain h).2 ?_
          have e1 : args.map a.eval = vs.toArray := by apply Array.ext'; simpa using this
          simp only [execOp, resolve, e1]
          rfl
        · cases h
      case min =>
        split at h
        · rename_i vs hvs
          have := VR_toVs hvs hargs
          refine same _ (pureA_sound h ν w) (pureA_plain h).1 (pureA_plain h).2 ?_
          have e1 : args.map a.eval = vs.toArray := by apply Array.ext'; simpa using this
          simp only [execOp, resolve, e1]
          rfl
        · cases h
  | _ => simp only [opA] at h; cases h

end Go.Proofs.Ytkbdppnlojlcdaa
