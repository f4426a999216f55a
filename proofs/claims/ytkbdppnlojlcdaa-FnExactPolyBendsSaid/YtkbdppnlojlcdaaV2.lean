/- The abstract machine, 2: loads, stores and new blocks: what they do abstractly, and that they do so. No conditions. -/
import Derived.Test.YtkbdppnlojlcdaaV1
namespace Go.Proofs.Ytkbdppnlojlcdaa
open Go.RowKit

def aggA (P : Program) (t : TypeId) : Option Bool :=
  match P.underlying t with
  | some (.struct _) => some true
  | some (.array _ _) => some true
  | some _ => some false
  | none => none
def szA (P : Program) (t : TypeId) : Option Nat := (P.info? t).map (·.size)

theorem run_isAgg {P : Program} {t : TypeId} {b : Bool} (h : aggA P t = some b) (w : World) : (isAgg t).run P w = .ok b w := by
  unfold aggA at h
  unfold isAgg
  cases hu : P.underlying t with
  | none => simp [hu] at h
  | some d =>
    rw [hu] at h
    cases d <;> simp at h <;> subst h <;> simp [run_underlying hu]

theorem run_sizeOf' {P : Program} {t : TypeId} {s : Nat} (h : szA P t = some s) (w : World) : (sizeOf t).run P w = .ok s w := by
  unfold szA at h
  cases hi : P.info? t with
  | none => simp [hi] at h
  | some i =>
    simp [hi] at h
    subst h
    simp [sizeOf, typeInfo, hi]

def splice {α : Type} : List α → Nat → List α → List α
  | l, 0, xs => xs ++ l.drop xs.length
  | [], _ + 1, _ => []
  | a :: l, n + 1, xs => a :: splice l n xs

theorem splice_eq {α : Type} : ∀ (l : List α) (n : Nat) (xs : List α), n ≤ l.length → splice l n xs = l.take n ++ xs ++ l.drop (n + xs.length)
  | l, 0, xs, _ => by cases l <;> simp [splice]
  | [], n + 1, _, h => by simp at h
  | a :: l, n + 1, xs, h => by
    simp only [splice, List.take_succ_cons, List.cons_append]
    rw [splice_eq l n xs (by simpa using h), Nat.add_right_comm, List.drop_succ_cons]

theorem splice_length {α : Type} (l : List α) (n : Nat) (xs : List α) (h : n + xs.length ≤ l.length) : (splice l n xs).length = l.length := by
  rw [splice_eq l n xs (by omega)]
  simp
  omega

theorem splice_get {α : Type} (l : List α) (n : Nat) (xs : List α) (h : n + xs.length ≤ l.length) (k : Nat) : (splice l n xs)[k]? = if n ≤ k ∧ k < n + xs.length then xs[k - n]? else l[k]? := by
  rw [splice_eq l n xs (by omega), List.append_assoc]
  by_cases h1 : k < n
  · rw [List.getElem?_append_left (by simp; omega), if_neg (by omega), List.getElem?_take, if_pos h1]
  · rw [List.getElem?_append_right (by simp; omega)]
    simp only [List.length_take, Nat.min_eq_left (show n ≤ l.length by omega)]
    by_cases h2 : k < n + xs.length
    · rw [if_pos ⟨by omega, h2⟩, List.getElem?_append_left (by omega)]
    · rw [if_neg (by omega), List.getElem?_append_right (by omega), List.getElem?_drop]
      congr 1
      omega

theorem VRs.splice {ν : Nu} : ∀ {as : List AV} {ys : List Value} (n : Nat) {bs : List AV} {zs : List Value}, VRs ν as ys → VRs ν bs zs → VRs ν (splice as n bs) (Go.Proofs.Ytkbdppnlojlcdaa.splice ys n zs)
  | as, ys, 0, bs, zs, h, k => by
    have : ∀ {α : Type} (l xs : List α), Go.Proofs.Ytkbdppnlojlcdaa.splice l 0 xs = xs ++ l.drop xs.length := fun l xs => by cases l <;> rfl
    rw [this, this, k.length]
    exact k.append (h.drop _)
  | [], [], n + 1, _, _, _, _ => by simp only [Go.Proofs.Ytkbdppnlojlcdaa.splice, VRs]
  | a :: as, y :: ys, n + 1, _, _, h, k => by
    simp only [VRs, Go.Proofs.Ytkbdppnlojlcdaa.splice] at h ⊢
    exact ⟨h.1, VRs.splice n h.2 k⟩
  | [], _ :: _, _ + 1, _, _, h, _ => by simp only [VRs] at h
  | _ :: _, [], _ + 1, _, _, h, _ => by simp only [VRs] at h

theorem addr_add (n o j : Nat) : (⟨n, o, none⟩ : Addr).add j = ⟨n, o + j, none⟩ := by
  unfold Addr.add
  split <;> simp_all

theorem cell_at {w : World} {n : Nat} {l : List Value} {t : TypeId} {fz : Nat × Nat} (h : w.heap[n]? = some (.cells l.toArray t fz)) (o : Nat) : w.cell? ⟨n, o, none⟩ = l[o]? := by
  simp [World.cell?, h]

theorem run_loadAt_one {P : Program} {t : TypeId} {w : World} {n o : Nat} {x : Value} (ha : aggA P t = some false) (h : w.cell? ⟨n, o, none⟩ = some x) :
    (Instr.loadAt t (.pointer (some ⟨n, o, none⟩))).run P w = .ok x w := by
  simp [Instr.loadAt, Instr.sureAddr, loadVar, run_isAgg ha, load, Sem.run, h]

theorem run_loadAt_agg {P : Program} {t : TypeId} {w : World} {n o s : Nat} {xs : List Value} (ha : aggA P t = some true) (hs : szA P t = some s) (hl : xs.length = s) (h : ∀ j x, xs[j]? = some x → w.cell? ⟨n, o + j, none⟩ = some x) :
    (Instr.loadAt t (.pointer (some ⟨n, o, none⟩))).run P w = .ok (.agg xs.toArray) w := by
  subst hl
  have := run_loadCells_list (P := P) w ⟨n, o, none⟩ xs (fun j x hx => by rw [addr_add]; exact h j x hx)
  simp [Instr.loadAt, Instr.sureAddr, loadVar, run_isAgg ha, run_sizeOf' hs, this]

/-- A load: the value, the block that is read, what is owed. -/
def loadA (P : Program) (H : List AB) (t : TypeId) (a : AV) : Option Delta :=
  match a with
  | .ptr i w j k =>
    match aggA P t, szA P t, H.getD i .gone with
    | some true, some s, .cells cs _ => if j * w + k + s ≤ cs.length then some { val := .agg ((cs.drop (j * w + k)).take s), rd := [i] } else none
    | some false, some _, .cells cs _ => (cs[j * w + k]?).map fun c => { val := c, rd := [i] }
    | some true, some s, .row _ n wd g _ => if wd = w ∧ k + s ≤ w then some { val := .v (.agg (((g j).drop k).take s).toArray), rd := [i], obl := [decide (j < n)] } else none
    | some false, some _, .row _ n wd g _ => if wd = w ∧ k < w then some { val := .v ((g j).getD k undef), rd := [i], obl := [decide (j < n)] } else none
    | _, _, _ => none
  | _ => none

def obls (l : List Bool) : Bool := l.all id

theorem Did.same {ν : Nu} {base : Nat} {δ : Delta} {w : World} {v : Value} (hv : VR ν δ.val v) (hp : δ.put = []) (hn : δ.new = []) : Did ν ν base δ w w v where
  le := Le.refl _
  dom := fun i h h' => absurd h h'
  val := hv
  put := by rw [hp]; intro i b h; simp [lookB] at h
  new := by rw [hn]; intro j b h; simp at h
  os := rfl
  tape := rfl
  output := rfl
  size := Nat.le_refl _
  block := fun _ _ _ => rfl
  fresh := by rw [hn]; intro j b h; simp at h
  apart := by rw [hn]; intro j j' b b' _ h; simp at h

theorem loadA_plain {P : Program} {H : List AB} {t : TypeId} {a : AV} {δ : Delta} (h : loadA P H t a = some δ) : δ.put = [] ∧ δ.new = [] := by
  unfold loadA at h
  repeat (first | split at h | (simp only [Option.map_eq_some_iff] at h; obtain ⟨c, _, rfl⟩ := h; exact ⟨rfl, rfl⟩) | (simp only [Option.some.injEq] at h; subst h; exact ⟨rfl, rfl⟩) | cases h)

theorem loadA_sound {P : Program} {H : List AB} {t : TypeId} {a : AV} {δ : Delta} {ν : Nu} {w : World} {y : Value} (h : loadA P H t a = some δ) (ho : obls δ.obl = true) (hv : VR ν a y)
    (hr : ∀ i ∈ δ.rd, BR ν i (H.getD i .gone) w) : ∃ x, (Instr.loadAt t y).run P w = .ok x w ∧ VR ν δ.val x := by
  unfold loadA at h
  split at h
  · rename_i i wd j k
    simp only [VR] at hv
    obtain ⟨b, hb, rfl⟩ := hv
    split at h
    · rename_i s cs ct ha hs hH
      split at h
      · rename_i hle
        simp only [Option.some.injEq] at h
        subst h
        have hb' := hr i (by simp)
        rw [hH] at hb'
        obtain ⟨b', l, e1, e2, e3, e4⟩ := hb'
        rw [hb] at e1; cases e1
        rw [e2, Nat.zero_add]
        have hll := e4.length
        refine ⟨_, run_loadAt_agg (xs := (l.drop (j * wd + k)).take s) ha hs (by simp; omega) ?_, ?_⟩
        · intro q x hx
          rw [cell_at e3]
          rw [List.getElem?_take] at hx
          split at hx
          · rwa [List.getElem?_drop] at hx
          · cases hx
        · simp only [VR]
          exact ⟨_, rfl, (e4.drop _).take _⟩
      · cases h
    · rename_i s cs ct ha hs hH
      simp only [Option.map_eq_some_iff] at h
      obtain ⟨c, hc, rfl⟩ := h
      have hb' := hr i (by simp)
      rw [hH] at hb'
      obtain ⟨b', l, e1, e2, e3, e4⟩ := hb'
      rw [hb] at e1; cases e1
      rw [e2, Nat.zero_add]
      obtain ⟨x, hx, hvx⟩ := e4.get hc
      exact ⟨x, run_loadAt_one ha ((cell_at e3 _).trans hx), hvx⟩
    · rename_i s rw' n w' g gt ha hs hH
      split at h
      · rename_i hle
        obtain ⟨rfl, hle⟩ := hle
        simp only [Option.some.injEq] at h
        subst h
        have hjn : j < n := by simpa [obls] using ho
        have hb' := hr i (by simp)
        rw [hH] at hb'
        rcases hb' with ⟨_, h0, _⟩ | ⟨b', l, t', fz, e1, e2, e3, e4, e5⟩
        · omega
        rw [hb] at e1; cases e1
        obtain ⟨⟨hg1, hg3⟩, hg2⟩ := e5 j hjn
        refine ⟨_, run_loadAt_agg (xs := ((g j).drop k).take s) ha hs (by simp; omega) ?_, ?_⟩
        · intro q x hx
          rw [List.getElem?_take] at hx
          split at hx
          · rename_i hq
            rw [List.getElem?_drop] at hx
            rw [cell_at e2, show b.o + (j * w' + k) + q = b.o + (j * w' + (k + q)) by omega, hg2 (k + q) (by omega)]
            exact hx
          · cases hx
        · simp only [VR]
      · cases h
    · rename_i s rw' n w' g gt ha hs hH
      split at h
      · rename_i hle
        obtain ⟨rfl, hle⟩ := hle
        simp only [Option.some.injEq] at h
        subst h
        have hjn : j < n := by simpa [obls] using ho
        have hb' := hr i (by simp)
        rw [hH] at hb'
        rcases hb' with ⟨_, h0, _⟩ | ⟨b', l, t', fz, e1, e2, e3, e4, e5⟩
        · omega
        rw [hb] at e1; cases e1
        obtain ⟨⟨hg1, hg3⟩, hg2⟩ := e5 j hjn
        refine ⟨(g j).getD k undef, run_loadAt_one ha ?_, by simp only [VR]⟩
        rw [cell_at e2, hg2 k hle]
        simp [List.getD, hg1, hle]
      · cases h
    · cases h
  · cases h

theorem run_storeAt_at {P : Program} {ty : TypeId} {w : World} {n o s : Nat} {l vs : List Value} {t : TypeId} {y : Value} (hs : szA P ty = some s) (hl : vs.length = s) (hy : y.cells.toList = vs) (h : w.heap[n]? = some (.cells l.toArray t (0, 0))) (ho : o + s ≤ l.length)
    (h1 : ∀ v ∈ vs, v.oneCell' = true) : (Instr.storeAt ty (.pointer (some ⟨n, o, none⟩)) y).run P w = .ok () (w.setRow n (splice l o vs).toArray) := by
  subst hl
  have H := run_storeCells_at P n o t vs 0 l.toArray w h (by simpa using ho) h1
  have hz : y.cells.size = vs.length := by rw [← hy]; simp
  simp only [Instr.storeAt, Instr.sureAddr, storeVar]
  rw [splice_eq l o vs (by omega)]
  simp only [Nat.add_zero] at H
  simp [run_sizeOf' hs, hz, hy, H]

/-- A store: the block that is written. -/
def storeA (P : Program) (H : List AB) (t : TypeId) (a x : AV) : Option Delta :=
  match a, x.cells, szA P t with
  | .ptr i w j k, some xs, some s =>
    if xs.length = s ∧ xs.all AV.flat = true then
      match H.getD i .gone with
      | .cells cs ty => if j * w + k + s ≤ cs.length then some { val := .v undef, rd := [i], put := [(i, .cells (splice cs (j * w + k) xs) ty)] } else none
      | .row true n wd g ty =>
        if wd = w ∧ k + s ≤ w then
          match AV.toVs xs with
          | some vs => some { val := .v undef, rd := [i], put := [(i, .row true n wd (fun q => bif Nat.beq q j then splice (g j) k vs else g q) ty)], obl := [decide (j < n)] }
          | none => none
        else none
      | _ => none
    else none
  | _, _, _ => none

theorem mul_apart {w j q k m : Nat} (h : j ≠ q) (hk : k < w) (hm : m < w) : j * w + k ≠ q * w + m := by
  intro e
  have h1 : (j * w + k) / w = j := by rw [Nat.mul_comm, Nat.mul_add_div (by omega), Nat.div_eq_of_lt hk, Nat.add_zero]
  have h2 : (q * w + m) / w = q := by rw [Nat.mul_comm, Nat.mul_add_div (by omega), Nat.div_eq_of_lt hm, Nat.add_zero]
  rw [e, h2] at h1
  exact h h1.symm

theorem VRs.toVs_eq {ν : Nu} {xs : List AV} {vs ys : List Value} (h : AV.toVs xs = some vs) (hv : VRs ν xs ys) : ys = vs := VR_toVs h hv

theorem storeA_sound {P : Program} {H : List AB} {t : TypeId} {a x : AV} {δ : Delta} {ν : Nu} {w : World} {y z : Value} {base : Nat} (h : storeA P H t a x = some δ) (ho : obls δ.obl = true) (hv : VR ν a y) (hx : VR ν x z)
    (hr : ∀ i ∈ δ.rd, BR ν i (H.getD i .gone) w) : ∃ w', (Instr.storeAt t y z).run P w = .ok () w' ∧ Did ν ν base δ w w' undef := by
  unfold storeA at h
  split at h
  · rename_i i wd j k xs s hc hs
    simp only [VR] at hv
    obtain ⟨b, hb, rfl⟩ := hv
    split at h
    · rename_i hfl
      obtain ⟨hlen, hfl⟩ := hfl
      have hcv := VR_cells hc hx
      have hzl : z.cells.toList.length = s := by rw [← hcv.length]; exact hlen
      have h1 : ∀ v ∈ z.cells.toList, v.oneCell' = true := by
        intro v hvm
        obtain ⟨q, hq⟩ := List.mem_iff_getElem?.1 hvm
        have hql : q < xs.length := by
          rw [hcv.length]
          exact (List.getElem?_eq_some_iff.1 hq).1
        obtain ⟨v', e1, e2⟩ := hcv.get (List.getElem?_eq_getElem hql)
        rw [hq] at e1; cases e1
        exact VR_flat (List.all_eq_true.1 hfl _ (List.getElem_mem hql)) e2
      have did : ∀ (bn : AB) (l : List Value) (ty : TypeId), w.heap[b.n]? = some (.cells l.toArray ty (0, 0)) → ∀ l' : List Value, (BR ν i bn (w.setRow b.n l'.toArray)) → ∀ δ' : Delta, δ'.val = .v undef → δ'.put = [(i, bn)] → δ'.new = [] →
          Did ν ν base δ' w (w.setRow b.n l'.toArray) undef := by
        intro bn l ty hh l' hbr δ' hv1 hp1 hn1
        refine ⟨Le.refl _, fun q h h' => absurd h h', by rw [hv1]; simp only [VR], ?_, by rw [hn1]; intro q bb hq; simp at hq, rfl, rfl, rfl, by simp, ?_, by rw [hn1]; intro q bb hq; simp at hq, by rw [hn1]; intro q q' bb bb' _ hq; simp at hq⟩
        · rw [hp1]
          intro q bb hq
          simp only [lookB] at hq
          split at hq
          · rename_i e; subst e; cases hq; exact hbr
          · cases hq
        · intro q hq hne
          refine setRow_other _ _ _ _ ?_
          have := hne (i, bn) b (by rw [hp1]; simp) hb
          exact fun e => this e.symm
      split at h
      · rename_i cs ty hH
        split at h
        · rename_i hle
          simp only [Option.some.injEq] at h
          subst h
          have hb' := hr i (by simp)
          rw [hH] at hb'
          obtain ⟨b', l, e1, e2, e3, e4⟩ := hb'
          rw [hb] at e1; cases e1
          rw [e2, Nat.zero_add]
          have hll := e4.length
          refine ⟨_, run_storeAt_at hs hzl rfl e3 (by omega) h1, did _ l _ e3 _ ?_ _ rfl rfl rfl⟩
          exact ⟨b, _, hb, e2, setRow_heap _ _ _ _ _ _ e3, VRs.splice _ e4 hcv⟩
        · cases h
      · rename_i n w' g ty hH
        split at h
        · rename_i hle
          obtain ⟨rfl, hle⟩ := hle
          split at h
          · rename_i vs hvs
            simp only [Option.some.injEq] at h
            subst h
            have hjn : j < n := by simpa [obls] using ho
            have hzv := VR_toVs hvs hcv
            have hb' := hr i (by simp)
            rw [hH] at hb'
            rcases hb' with ⟨_, h0, _⟩ | ⟨b', l, t', fz, e1, e2, e3, e4, e5⟩
            · omega
            rw [hb] at e1; cases e1
            obtain ⟨rfl, eo, rfl, el, ec⟩ := e3 rfl
            rw [eo, Nat.zero_add]
            have hmul : (j + 1) * w' ≤ b.c * w' := Nat.mul_le_mul_right _ (by omega)
            rw [Nat.add_mul, Nat.one_mul] at hmul
            have hvl : vs.length = s := by rw [← hzv]; exact hzl
            refine ⟨_, run_storeAt_at hs hzl rfl e2 (by omega) h1, did _ l _ e2 _ ?_ _ rfl rfl rfl⟩
            have hsl : (splice l (j * w' + k) z.cells.toList).length = l.length := splice_length _ _ _ (by omega)
            refine .inr ⟨b, _, _, _, hb, setRow_heap _ _ _ _ _ _ e2, fun _ => ⟨rfl, eo, rfl, by rw [hsl]; exact el, ec⟩, e4, ?_⟩
            intro q hq
            obtain ⟨⟨hg1, hg3⟩, hg2⟩ := e5 q hq
            obtain ⟨⟨hj1, hj3⟩, hj2⟩ := e5 j hjn
            by_cases hqj : q = j
            · subst hqj
              simp only [Nat.beq_refl, cond_true]
              refine ⟨⟨by rw [splice_length _ _ _ (by omega)]; exact hg1, fun x hx => ?_⟩, fun m hm => ?_⟩
              · rw [splice_eq _ _ _ (by omega)] at hx
                simp only [List.mem_append] at hx
                rcases hx with (hx | hx) | hx
                · exact hg3 x (List.mem_of_mem_take hx)
                · exact h1 x (by rw [hzv]; exact hx)
                · exact hg3 x (List.mem_of_mem_drop hx)
              rw [splice_get _ _ _ (by omega), splice_get _ _ _ (by omega), eo, Nat.zero_add, hzl, hzv, hvl]
              by_cases hin : k ≤ m ∧ m < k + s
              · rw [if_pos (by omega), if_pos hin]
                congr 1
                omega
              · rw [if_neg (by omega), if_neg hin]
                have := hg2 m hm
                rwa [eo, Nat.zero_add] at this
            · have hbq : Nat.beq q j = false := by
                cases hbq : Nat.beq q j with
                | true => exact absurd (Nat.eq_of_beq_eq_true hbq) hqj
                | false => rfl
              simp only [hbq, cond_false]
              refine ⟨⟨hg1, hg3⟩, fun m hm => ?_⟩
              rw [splice_get _ _ _ (by omega), eo, Nat.zero_add, hzl, if_neg ?_]
              · have := hg2 m hm
                rwa [eo, Nat.zero_add] at this
              · rintro ⟨c1, c2⟩
                have : j * w' + k + (q * w' + m - (j * w' + k)) = q * w' + m := by omega
                exact mul_apart (w := w') (j := q) (q := j) (k := m) (m := k + (q * w' + m - (j * w' + k))) hqj hm (by omega) (by omega)
          · cases h
        · cases h
      · cases h
    · cases h
  · cases h

end Go.Proofs.Ytkbdppnlojlcdaa
