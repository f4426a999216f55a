/- The abstract machine, 22: one case of a word. No conditions. -/
import Derived.Test.YtkbdppnlojlcdaaV15
namespace Go.Proofs.Ytkbdppnlojlcdaa
open Go.RowKit

theorem specR_case {P : Program} {f : FuncId} {mds : List Md} {F F' : List SA → Option FR} (h : SpecOk P f (specR mds F))
    (hF : ∀ sas fr, F' sas = some fr → obls fr.obl = true → ∃ ob, F sas = some { fr with obl := ob } ∧ obls ob = true) : SpecOk P f (specR mds F') := by
  refine ⟨h.1, fun avs H base δ ν vals w hS ho hv hr hlt hfree hsep => ?_⟩
  unfold specR at hS
  split at hS
  · rename_i xs hxs
    split at hS
    · rename_i fr hFr
      split at hS
      · rename_i av hav
        cases hc : ((!hasWr mds || nodupB ((ixC mds xs).filterMap id)) && fr.new.all isRowT && Nat.beq (abP mds (xs.map (·.sa)) fr.put).length (abC mds (xs.map (·.sa))).length) with
        | false => rw [hc] at hS; cases hS
        | true =>
          rw [hc] at hS
          simp only [cond_true, Option.some.injEq] at hS
          subst hS
          have ho' : obls (xs.flatMap (·.ob)) = true ∧ obls fr.obl = true := by simpa [obls, List.all_append] using ho
          obtain ⟨ob, e1, e2⟩ := hF _ _ hFr ho'.2
          have hS2 : specR mds F avs H base = some { val := av, rd := (ixC mds xs).filterMap id, put := putC (ixC mds xs) (abP mds (xs.map (·.sa)) fr.put), new := fr.new, obl := xs.flatMap (·.ob) ++ ob } := by
            unfold specR
            rw [hxs]
            simp only [e1, hav]
            rw [hc]
            rfl
          refine (h.2 avs H base _ ν vals w hS2 (by simpa [obls, List.all_append] using And.intro ho'.1 e2) hv hr hlt hfree hsep).mono ?_
          rintro e w' ⟨v, ν', rfl, d⟩
          exact ⟨v, ν', rfl, d.le, d.dom, d.val, d.put, d.new, d.os, d.tape, d.output, d.size, d.block, d.fresh, d.apart⟩
      · cases hS
    · cases hS
  · cases hS

end Go.Proofs.Ytkbdppnlojlcdaa
