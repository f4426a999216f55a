/- The abstract machine, 4: append. No conditions. -/
import Derived.Test.YtkbdppnlojlcdaaV3
namespace Go.Proofs.Ytkbdppnlojlcdaa
open Go.RowKit

/-- The list that a slice reads as, element by element: its block, its elements, what is owed. -/
def elemsA (H : List AB) (s : Nat) : AV → Option (Nat × Nat × (Nat → List Value) × List Bool)
  | .own i m => match H.getD i .gone with
    | .row _ n wd g _ => if wd = s then some (i, m, g, [Nat.ble m n]) else none
    | _ => none
  | .sl i w j k m _ => match H.getD i .gone with
    | .row _ n wd g _ => if wd = s ∧ w = s ∧ k = 0 then some (i, m, fun q => g (j + q), [Nat.ble (j + m) n]) else none
    | _ => none
  | _ => none

structure Elems (w : World) (s : Nat) (y : Value) (m : Nat) (g : Nat → List Value) : Prop where
  mk' : ∃ (p : Option Addr) (c : Nat) (news : List Value), y = .slice p m c ∧ (p = none → m = 0) ∧ news.length = m * s ∧ (∀ a, p = some a → ∀ (j : Nat) v, news[j]? = some v → w.cell? (a.add j) = some v) ∧
    ∀ q, q < m → ((g q).length = s ∧ ∀ x ∈ g q, x.oneCell' = true) ∧ ∀ k, k < s → news[q * s + k]? = (g q)[k]?

theorem elems_of {w : World} {l : List Value} {n : Nat} {t : TypeId} {fz : Nat × Nat} {s m off : Nat} {g : Nat → List Value} (hh : w.heap[n]? = some (.cells l.toArray t fz))
    (h : ∀ q, q < m → ((g q).length = s ∧ ∀ x ∈ g q, x.oneCell' = true) ∧ ∀ k, k < s → l[off + (q * s + k)]? = (g q)[k]?) :
    ∃ news : List Value, news.length = m * s ∧ (∀ (j : Nat) v, news[j]? = some v → w.cell? ((⟨n, off, none⟩ : Addr).add j) = some v) ∧
      ∀ q, q < m → ((g q).length = s ∧ ∀ x ∈ g q, x.oneCell' = true) ∧ ∀ k, k < s → news[q * s + k]? = (g q)[k]? := by
  refine ⟨(l.drop off).take (m * s), ?_, ?_, ?_⟩
  · rcases Nat.eq_zero_or_pos m with rfl | hm
    · simp
    · rcases Nat.eq_zero_or_pos s with rfl | hs
      · simp
      · obtain ⟨⟨e1, _⟩, e2⟩ := h (m - 1) (by omega)
        have e3 := e2 (s - 1) (by omega)
        have hx : (g (m - 1))[s - 1]? = some (g (m - 1))[s - 1] := List.getElem?_eq_getElem (by omega)
        rw [hx] at e3
        have hlt := (List.getElem?_eq_some_iff.1 e3).1
        have : (m - 1) * s + s = m * s := by
          have : m = (m - 1) + 1 := by omega
          rw [this, Nat.add_mul, Nat.one_mul, Nat.add_sub_cancel]
        simp only [List.length_take, List.length_drop]
        omega
  · intro j v hj
    rw [List.getElem?_take] at hj
    split at hj
    · rw [List.getElem?_drop] at hj
      rw [addr_add, cell_at hh]
      exact hj
    · cases hj
  · intro q hq
    refine ⟨(h q hq).1, fun k hk => ?_⟩
    have hmul : (q + 1) * s ≤ m * s := Nat.mul_le_mul_right _ hq
    rw [Nat.add_mul, Nat.one_mul] at hmul
    rw [List.getElem?_take, if_pos (by omega), List.getElem?_drop]
    exact (h q hq).2 k hk

theorem elemsA_sound {H : List AB} {s : Nat} {x : AV} {i m : Nat} {g : Nat → List Value} {ob : List Bool} {ν : Nu} {w : World} {y : Value} (h : elemsA H s x = some (i, m, g, ob)) (ho : obls ob = true) (hv : VR ν x y) (hr : BR ν i (H.getD i .gone) w) :
    Elems w s y m g := by
  unfold elemsA at h
  split at h
  · rename_i i' m'
    split at h
    · rename_i rw' n wd g' t hH
      split at h
      · rename_i e
        subst e
        simp only [Option.some.injEq, Prod.mk.injEq] at h
        obtain ⟨rfl, rfl, rfl, rfl⟩ := h
        simp only [VR] at hv
        obtain ⟨b, hb, rfl⟩ := hv
        rw [hH] at hr
        rcases hr with ⟨_, _, e1⟩ | ⟨b', l, t', fz, e1, e2, e3, e4, e5⟩
        · rw [hb] at e1; cases e1
        rw [hb] at e1; cases e1
        have hle : m' ≤ n := by
          simp only [obls, List.all_cons, List.all_nil, Bool.and_true, id] at ho
          exact Nat.le_of_ble_eq_true ho
        obtain ⟨news, h1, h2, h3⟩ := elems_of (m := m') (off := b.o) e2 (fun q hq => e5 q (by omega))
        exact ⟨_, _, news, rfl, by simp, h1, fun a ha => (by cases ha; exact h2), h3⟩
      · cases h
    · cases h
  · rename_i i' w' j k m' cap
    split at h
    · rename_i rw' n wd g' t hH
      split at h
      · rename_i e
        obtain ⟨rfl, rfl, rfl⟩ := e
        simp only [Option.some.injEq, Prod.mk.injEq] at h
        obtain ⟨rfl, rfl, rfl, rfl⟩ := h
        simp only [VR] at hv
        obtain ⟨p, c, rfl, hc, hmc, hp⟩ := hv
        have hle : j + m' ≤ n := by
          simp only [obls, List.all_cons, List.all_nil, Bool.and_true, id] at ho
          exact Nat.le_of_ble_eq_true ho
        rcases Nat.eq_zero_or_pos c with h0 | h0
        · have hm0 : m' = 0 := by omega
          subst hm0
          exact ⟨p, c, [], rfl, fun _ => rfl, by simp, fun a _ j v hj => by simp at hj, fun q hq => by omega⟩
        · obtain ⟨b, hb, rfl⟩ := hp h0
          rw [hH] at hr
          rcases hr with ⟨_, h00, e1⟩ | ⟨b', l, t', fz, e1, e2, e3, e4, e5⟩
          · rw [hb] at e1; cases e1
          rw [hb] at e1; cases e1
          obtain ⟨news, h1, h2, h3⟩ := elems_of (m := m') (off := b.o + (j * w' + 0)) (g := fun q => g' (j + q)) e2 (fun q hq => by
            obtain ⟨f1, f2⟩ := e5 (j + q) (by omega)
            refine ⟨f1, fun k hk => ?_⟩
            rw [← f2 k hk, Nat.add_mul]
            congr 1
            omega)
          exact ⟨_, _, news, rfl, by simp, h1, fun a ha => (by cases ha; exact h2), h3⟩
      · cases h
    · cases h
  · cases h

/-- append of a slice to a slice that lies at the head of its block (or to nil). -/
def appendA (P : Program) (t : TypeId) (H : List AB) (s x : AV) (base : Nat) : Option Delta :=
  match P.underlying t with
  | some (.slice e) => match P.info? e with
    | some i => match i.zero with
      | some z =>
        if z.cells.size = i.size ∧ 0 < i.size ∧ i.bytes ≤ 256 then
          match elemsA H i.size x with
          | some (ix, m, gx, ob) =>
            match s with
            | .own is len => match H.getD is .gone with
              | .row true n wd g ty => if wd = i.size ∧ ty = e then
                  some { val := .own base (len + m), rd := [is, ix], put := [(is, .gone)], new := [.row true (len + m) wd (fun q => bif Nat.blt q len then g q else gx (q - len)) e], obl := Nat.ble len n :: Nat.ble (len + m) 549755813888 :: ob }
                else none
              | _ => none
            | .v (.slice none 0 0) => some { val := .own base m, rd := [ix], new := [.row true m i.size gx e], obl := Nat.blt 0 m :: Nat.ble m 549755813888 :: ob }
            | _ => none
          | none => none
        else none
      | none => none
    | none => none
  | _ => none

def flatN (g : Nat → List Value) : Nat → List Value
  | 0 => []
  | n + 1 => flatN g n ++ g n

theorem flatN_take {s m : Nat} {g : Nat → List Value} {news : List Value} (hn : news.length = m * s) (h : ∀ q, q < m → ((g q).length = s ∧ ∀ x ∈ g q, x.oneCell' = true) ∧ ∀ k, k < s → news[q * s + k]? = (g q)[k]?) : ∀ n, n ≤ m → flatN g n = news.take (n * s)
  | 0, _ => by simp [flatN]
  | n + 1, hle => by
    have ih := flatN_take hn h n (by omega)
    obtain ⟨⟨h1, _⟩, h2⟩ := h n (by omega)
    have hmul : (n + 1) * s ≤ m * s := Nat.mul_le_mul_right _ hle
    rw [Nat.add_mul, Nat.one_mul] at hmul
    have e : g n = (news.drop (n * s)).take s := by
      apply List.ext_getElem?
      intro k
      rw [List.getElem?_take]
      by_cases hk : k < s
      · rw [if_pos hk, List.getElem?_drop, h2 k hk]
      · rw [if_neg hk, List.getElem?_eq_none (by omega)]
    rw [flatN, ih, e, Nat.add_mul, Nat.one_mul, List.take_add]

/-- copy into a block of single cells. -/
def copyA (P : Program) (t : TypeId) (H : List AB) (dst src : AV) : Option Delta :=
  match P.underlying t, dst with
  | some (.slice e), .sl i w j k m _ => match szA P e, H.getD i .gone, elemsA H 1 src with
    | some 1, .cells cs ty, some (ix, mm, gx, ob) =>
      some { val := .v (.int .i64 (Nat.min mm m : Nat)), rd := [i, ix], put := [(i, .cells (splice cs (j * w + k) ((flatN gx (Nat.min mm m)).map .v)) ty)], obl := Nat.blt 0 m :: Nat.blt 0 mm :: Nat.ble (j * w + k + Nat.min mm m) cs.length :: ob }
    | _, _, _ => none
  | _, _ => none

theorem copyA_sound {P : Program} {t t' ty : TypeId} {H : List AB} {dst src : AV} {δ : Delta} {ν : Nu} {w : World} {y z : Value} {base : Nat} (h : copyA P t H dst src = some δ) (ho : obls δ.obl = true) (hy : VR ν dst y) (hz : VR ν src z) (hr : ∀ i ∈ δ.rd, BR ν i (H.getD i .gone) w)
    (hone : ∀ {s m : Nat} {gx : Nat → List Value} {news : List Value}, 0 < s → news.length = m * s → (∀ q, q < m → ((gx q).length = s ∧ ∀ x ∈ gx q, x.oneCell' = true) ∧ ∀ k, k < s → news[q * s + k]? = (gx q)[k]?) → ∀ v ∈ news, v.oneCell' = true) :
    ∃ v w', (Builtin.copy_ #[t, t'] ty #[y, z]).run P w = .ok v w' ∧ Did ν ν base δ w w' v := by
  unfold copyA at h
  split at h
  · rename_i e i wd j k m cap hu
    split at h
    · rename_i cs ct ix mm gx ob hs hH hel
      simp only [Option.some.injEq] at h
      subst h
      simp only [obls, List.all_cons, id, Bool.and_eq_true] at ho
      obtain ⟨ho1, ho2, ho3, ho4⟩ := ho
      have hm : 0 < m := by simpa [Nat.blt_eq] using ho1
      have hmm : 0 < mm := by simpa [Nat.blt_eq] using ho2
      have hle := Nat.le_of_ble_eq_true ho3
      obtain ⟨pa, c, news, rfl, hpn, hn1, hn2, hn3⟩ := (elemsA_sound hel ho4 hz (hr ix (by simp))).mk'
      cases pa with
      | none => have := hpn rfl; omega
      | some a =>
      have hsrc := hn2 a rfl
      simp only [VR] at hy
      obtain ⟨p, c', rfl, _, hlc, hp⟩ := hy
      obtain ⟨b, hb, rfl⟩ := hp (by omega)
      have hbr := hr i (by simp)
      rw [hH] at hbr
      obtain ⟨b', l, e1, e2, e3, e4⟩ := hbr
      rw [hb] at e1; cases e1
      have hfl := flatN_take hn1 hn3 (Nat.min mm m) (Nat.min_le_left _ _)
      rw [Nat.mul_one] at hfl hn1
      have hflen : (flatN gx (Nat.min mm m)).length = Nat.min mm m := by
        rw [hfl, List.length_take, hn1]
        exact Nat.min_eq_left (Nat.min_le_left _ _)
      have hll := e4.length
      have hrun := run_copy_row (P := P) w t t' ty e b.n (j * wd + k) m c' a mm c l.toArray ct (flatN gx (Nat.min mm m)) hu hs e3 hflen (fun q v hq => hsrc q v (by
        rw [hfl, List.getElem?_take] at hq
        split at hq
        · exact hq
        · cases hq)) (by simp only [List.size_toArray]; omega) (fun v hv => by
          rw [hfl] at hv
          exact hone (s := 1) (m := mm) Nat.one_pos (by omega) hn3 v (List.mem_of_mem_take hv))
      rw [e2, Nat.zero_add]
      refine ⟨_, _, hrun, Le.refl _, fun q h h' => absurd h h', by simp only [VR, goInt, hflen], ?_, by intro q bb hq; simp at hq, rfl, rfl, rfl, by simp, ?_, by intro q bb hq; simp at hq, by intro q q' bb bb' _ hq; simp at hq⟩
      · intro q bb hq
        simp only [lookB] at hq
        split at hq
        · rename_i ee; subst ee; cases hq
          refine ⟨b, _, hb, e2, setRow_heap _ _ _ _ _ _ e3, ?_⟩
          have := VRs.splice (j * wd + k) e4 (VRs.map_v (ν := ν) (flatN gx (Nat.min mm m)))
          rw [splice_eq l _ _ (by omega)] at this
          simpa using this
        · cases hq
      · intro q hq hne
        refine setRow_other _ _ _ _ ?_
        have := hne (i, _) b (List.mem_cons_self) hb
        exact fun e => this e.symm
    · cases h
  · cases h

theorem grow_row {s len m c : Nat} {g gx : Nat → List Value} {l news rest : List Value} (hl : l.length = len * s) (hn : news.length = m * s)
    (hg : ∀ q, q < len → ((g q).length = s ∧ ∀ x ∈ g q, x.oneCell' = true) ∧ ∀ k, k < s → l[q * s + k]? = (g q)[k]?) (hx : ∀ q, q < m → ((gx q).length = s ∧ ∀ x ∈ gx q, x.oneCell' = true) ∧ ∀ k, k < s → news[q * s + k]? = (gx q)[k]?) :
    ∀ j, j < len + m → (((fun q => bif Nat.blt q len then g q else gx (q - len)) j).length = s ∧ ∀ x ∈ (fun q => bif Nat.blt q len then g q else gx (q - len)) j, x.oneCell' = true) ∧ ∀ k, k < s → (l ++ news ++ rest)[0 + (j * s + k)]? = ((fun q => bif Nat.blt q len then g q else gx (q - len)) j)[k]? := by
  intro j hj
  by_cases hjl : j < len
  · have hb : Nat.blt j len = true := by simpa [Nat.blt_eq] using hjl
    simp only [hb, cond_true]
    refine ⟨(hg j hjl).1, fun k hk => ?_⟩
    have hmul : (j + 1) * s ≤ len * s := Nat.mul_le_mul_right _ hjl
    rw [Nat.add_mul, Nat.one_mul] at hmul
    rw [Nat.zero_add, List.append_assoc, List.getElem?_append_left (by omega)]
    exact (hg j hjl).2 k hk
  · have hb : Nat.blt j len = false := by
      cases hb : Nat.blt j len with
      | true => exact absurd (by simpa [Nat.blt_eq] using hb) hjl
      | false => rfl
    simp only [hb, cond_false]
    have hjm : j - len < m := by omega
    refine ⟨(hx _ hjm).1, fun k hk => ?_⟩
    have hmul : (j - len + 1) * s ≤ m * s := Nat.mul_le_mul_right _ hjm
    rw [Nat.add_mul, Nat.one_mul] at hmul
    have hsub : (j - len) * s = j * s - len * s := Nat.sub_mul ..
    have hle : len * s ≤ j * s := Nat.mul_le_mul_right _ (by omega)
    rw [Nat.zero_add, List.append_assoc, List.getElem?_append_right (by omega), List.getElem?_append_left (by omega), ← (hx _ hjm).2 k hk]
    congr 1
    omega

theorem one_of_rows {s m : Nat} {gx : Nat → List Value} {news : List Value} (hs : 0 < s) (hn : news.length = m * s) (hx : ∀ q, q < m → ((gx q).length = s ∧ ∀ x ∈ gx q, x.oneCell' = true) ∧ ∀ k, k < s → news[q * s + k]? = (gx q)[k]?) :
    ∀ v ∈ news, v.oneCell' = true := by
  intro v hv
  obtain ⟨j, hj⟩ := List.mem_iff_getElem?.1 hv
  have hlt := (List.getElem?_eq_some_iff.1 hj).1
  have hq : j / s < m := by
    rw [Nat.div_lt_iff_lt_mul hs]
    omega
  have hr := Nat.mod_lt j hs
  have he : j / s * s + j % s = j := by rw [Nat.mul_comm]; exact Nat.div_add_mod j s
  have h2 := (hx _ hq).2 _ hr
  rw [he, hj] at h2
  exact (hx _ hq).1.2 v (List.mem_of_getElem? h2.symm)

theorem appendA_sound {P : Program} {t ty : TypeId} {H : List AB} {s x : AV} {base : Nat} {δ : Delta} {ν : Nu} {w : World} {ys yx : Value} (h : appendA P t H s x base = some δ) (ho : obls δ.obl = true) (hs : VR ν s ys) (hx : VR ν x yx) (hb : ν base = none)
    (hr : ∀ i ∈ δ.rd, BR ν i (H.getD i .gone) w) (hlt : ∀ i b, ν i = some b → b.n < w.heap.size) :
    ∃ v w' ν', (Builtin.append_ #[t, t] ty #[ys, yx]).run P w = .ok v w' ∧ Did ν ν' base δ w w' v := by
  unfold appendA at h
  split at h
  · rename_i e hu
    split at h
    · rename_i i hi
      split at h
      · rename_i z hz
        split at h
        · rename_i hc
          obtain ⟨hzs, hpos, hby⟩ := hc
          split at h
          · rename_i ix m gx ob hel
            split at h
            · rename_i is len
              split at h
              · rename_i n wd g ty' hH
                split at h
                · rename_i hwd
                  obtain ⟨rfl, rfl⟩ := hwd
                  simp only [Option.some.injEq] at h
                  subst h
                  simp only [obls, List.all_cons, id, Bool.and_eq_true] at ho
                  obtain ⟨ho1, ho2, ho3⟩ := ho
                  have hln := Nat.le_of_ble_eq_true ho1
                  have hbig := Nat.le_of_ble_eq_true ho2
                  obtain ⟨pa, c, news, rfl, hpn, hn1, hn2', hn3⟩ := (elemsA_sound hel ho3 hx (hr ix (by simp))).mk'
                  have hone := one_of_rows hpos hn1 hn3
                  have hbr := hr is (by simp)
                  rw [hH] at hbr
                  rcases hbr with ⟨h00, _, _⟩ | ⟨b, l, t', fz, e1, e2, e3, e4, e5⟩
                  · cases h00
                  obtain ⟨rfl, eo, rfl, el, ec⟩ := e3 rfl
                  simp only [VR] at hs
                  obtain ⟨b', hb', rfl⟩ := hs
                  rw [e1] at hb'; cases hb'
                  have hg : ∀ q, q < len → ((g q).length = i.size ∧ ∀ x ∈ g q, x.oneCell' = true) ∧ ∀ k, k < i.size → (l.take (len * i.size))[q * i.size + k]? = (g q)[k]? := by
                    intro q hq
                    obtain ⟨f1, f2⟩ := e5 q (by omega)
                    refine ⟨f1, fun k hk => ?_⟩
                    have hmul : (q + 1) * i.size ≤ len * i.size := Nat.mul_le_mul_right _ hq
                    rw [Nat.add_mul, Nat.one_mul] at hmul
                    rw [List.getElem?_take, if_pos (by omega)]
                    have := f2 k hk
                    rwa [eo, Nat.zero_add] at this
                  have hlc : len * i.size ≤ l.length := by rw [el]; exact Nat.mul_le_mul_right _ (by omega)
                  have hlt' : (l.take (len * i.size)).length = len * i.size := by simp; omega
                  have hput : ∀ (k : Bk) (w' : World) (q : Nat) cc, lookB q [(is, AB.gone)] = some cc → BR (upd ν base k) q cc w' := by
                    intro k w' q cc hq
                    simp only [lookB] at hq
                    split at hq
                    · cases hq; trivial
                    · cases hq
                  have lk : lookB is [(is, AB.gone)] = some .gone := by simp [lookB]
                  rw [eo]
                  cases pa with
                  | none =>
                    have hm0 := hpn rfl
                    subst hm0
                    have hroom : len ≤ b.c := by omega
                    refine ⟨.slice (some ⟨b.n, 0, none⟩) len b.c, w, upd ν base b, ?_, Did.one (b := .row true (len + 0) i.size _ t') hb rfl ⟨hlt is b e1, .inr ⟨is, b, lk, e1, rfl⟩⟩ (hput _ _) ?_ ?_ rfl rfl rfl (Nat.le_refl _) (fun _ _ _ => rfl)⟩
                    · simp [Builtin.append_, run_underlying hu, sizeOf, typeInfo, hi, Builtin.lenOf, hroom, Builtin.firstCells, storeCells]
                    · simp only [VR]
                      exact ⟨b, upd_same _ _ _, by rw [eo]; rfl⟩
                    · refine .inr ⟨b, l, t', (0, 0), upd_same _ _ _, e2, fun _ => ⟨rfl, eo, rfl, el, ec⟩, by omega, fun q hq => ?_⟩
                      have hb' : Nat.blt q len = true := by simpa [Nat.blt_eq] using hq
                      simp only [hb', cond_true]
                      exact e5 q (by omega)
                  | some a =>
                  have hn2 := hn2' a rfl
                  by_cases hroom : len + m ≤ b.c
                  · have hfit : len * i.size + news.length ≤ l.toArray.size := by
                      simp only [List.size_toArray]
                      rw [hn1, el, ← Nat.add_mul]
                      exact Nat.mul_le_mul_right _ hroom
                    have hrun := run_append_room (P := P) w t ty t' i hu hi b.n len b.c l.toArray e2 a m c news hn1 hn2 hone hroom hfit
                    refine ⟨_, _, upd ν base b, hrun, Did.one (b := .row true (len + m) i.size _ t') hb rfl ⟨by simpa using hlt is b e1, .inr ⟨is, b, lk, e1, rfl⟩⟩ (hput _ _) ?_ ?_ rfl rfl rfl (by simp) ?_⟩
                    · simp only [VR]
                      exact ⟨b, upd_same _ _ _, by rw [eo]⟩
                    · refine .inr ⟨b, _, t', (0, 0), upd_same _ _ _, setRow_heap _ _ _ _ _ _ e2, fun _ => ⟨rfl, eo, rfl, ?_, ec⟩, hroom, ?_⟩
                      · simp only [List.size_toArray] at hfit
                        simp only [List.length_append, List.length_take, List.length_drop, List.toList_toArray] at hfit ⊢
                        omega
                      · rw [eo]
                        simp only [List.toList_toArray]
                        exact grow_row (c := 0) hlt' hn1 hg hn3
                    · intro q hq hne
                      refine setRow_other _ _ _ _ ?_
                      have := hne (is, .gone) b (by simp) e1
                      exact fun e => this e.symm
                  · have holds : ∀ (j : Nat) v, (l.take (len * i.size))[j]? = some v → w.cell? ((⟨b.n, 0, none⟩ : Addr).add j) = some v := by
                      intro j v hj
                      rw [List.getElem?_take] at hj
                      split at hj
                      · rw [addr_add, cell_at e2, Nat.zero_add]; exact hj
                      · cases hj
                    have hby2 : (len + m) * i.bytes ≤ 140737488355328 := by
                      have : (len + m) * i.bytes ≤ 549755813888 * 256 := Nat.mul_le_mul hbig hby
                      omega
                    have hrun := run_append_grow (P := P) w t ty t' i z hu hi hz ⟨b.n, 0, none⟩ len b.c (l.take (len * i.size)) hlt' holds a m c news hn1 hn2 (by omega) (by omega) (growslice_fits (by omega) hby2)
                    have hge := grownCap_ge w (len + m) b.c t'
                    have hcm : grownCap w (len + m) b.c t' ≤ maxLen := grownCap_le_maxLen w (len + m) b.c t' (by simp only [maxLen]; omega)
                    refine ⟨_, _, upd ν base ⟨w.heap.size, 0, grownCap w (len + m) b.c t'⟩, hrun, Did.one (b := .row true (len + m) i.size _ t') hb rfl ⟨by simp, .inl (Nat.le_refl _)⟩ (hput _ _) ?_ ?_ rfl rfl rfl (by simp) ?_⟩
                    · simp only [VR]
                      exact ⟨_, upd_same _ _ _, rfl⟩
                    · refine .inr ⟨_, (l.take (len * i.size)) ++ news ++ (Builtin.zeroCells z.cells (grownCap w (len + m) b.c t' - (len + m))).toList, t', (0, 0), upd_same _ _ _, ?_, fun _ => ⟨rfl, rfl, rfl, ?_, hcm⟩, hge, grow_row (c := 0) hlt' hn1 hg hn3⟩
                      · show (w.heap.push _)[w.heap.size]? = _
                        simp
                      · simp only [List.length_append, hlt', hn1, Array.length_toList, size_zeroCells, hzs, ← Nat.add_mul]
                        congr 1
                        omega
                    · intro q hq _
                      show (w.heap.push _)[q]? = _
                      rw [Array.getElem?_push, if_neg (by omega)]
                · cases h
              · cases h
            · simp only [Option.some.injEq] at h
              subst h
              simp only [obls, List.all_cons, id, Bool.and_eq_true] at ho
              obtain ⟨ho1, ho2, ho3⟩ := ho
              have hm : 0 < m := by simpa [Nat.blt_eq] using ho1
              have hbig := Nat.le_of_ble_eq_true ho2
              obtain ⟨pa, c, news, rfl, hpn, hn1, hn2', hn3⟩ := (elemsA_sound hel ho3 hx (hr ix (by simp))).mk'
              cases pa with
              | none => have := hpn rfl; omega
              | some a =>
              have hn2 := hn2' a rfl
              simp only [VR] at hs
              subst hs
              have hby2 : m * i.bytes ≤ 140737488355328 := by
                have : m * i.bytes ≤ 549755813888 * 256 := Nat.mul_le_mul hbig hby
                omega
              have hrun := run_append_nil (P := P) w t ty e i z hu hi hz a m c news hn1 hn2 hm (by omega) (by omega)
              have hge := grownCap_ge w m 0 e
              have hcm : grownCap w m 0 e ≤ maxLen := grownCap_le_maxLen w m 0 e (by simp only [maxLen]; omega)
              refine ⟨_, _, upd ν base ⟨w.heap.size, 0, grownCap w m 0 e⟩, hrun, Did.one (b := .row true m i.size gx e) hb rfl ⟨by simp, .inl (Nat.le_refl _)⟩ (by intro q cc hq; simp [lookB] at hq) ?_ ?_ rfl rfl rfl (by simp) ?_⟩
              · simp only [VR]
                exact ⟨_, upd_same _ _ _, rfl⟩
              · refine .inr ⟨_, news ++ (Builtin.zeroCells z.cells (grownCap w m 0 e - m)).toList, e, (0, 0), upd_same _ _ _, ?_, fun _ => ⟨rfl, rfl, rfl, ?_, hcm⟩, hge, ?_⟩
                · show (w.heap.push _)[w.heap.size]? = _
                  simp
                · simp only [List.length_append, hn1, Array.length_toList, size_zeroCells, hzs, ← Nat.add_mul]
                  congr 1
                  omega
                · intro j hj
                  refine ⟨(hn3 j hj).1, fun k hk => ?_⟩
                  have hmul : (j + 1) * i.size ≤ m * i.size := Nat.mul_le_mul_right _ hj
                  rw [Nat.add_mul, Nat.one_mul] at hmul
                  rw [Nat.zero_add, List.getElem?_append_left (by omega)]
                  exact (hn3 j hj).2 k hk
              · intro q hq _
                show (w.heap.push _)[q]? = _
                rw [Array.getElem?_push, if_neg (by omega)]
            · cases h
          · cases h
        · cases h
      · cases h
    · cases h
  · cases h

end Go.Proofs.Ytkbdppnlojlcdaa
