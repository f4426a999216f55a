/- The frames of laws over a list of entries. No conditions. -/
import Derived.Test.YtcadinbahmliiaaGreatDoorZD0
import Derived.Test.YtcadinbahmliiaaGreatDoorZD1
import Derived.Test.YtcadinbahmliiaaGreatDoorZD2
import Derived.Test.YtcadinbahmliiaaGreatDoorZD3
import Derived.Test.YtcadinbahmliiaaGreatDoorZD4
import Derived.Test.YtcadinbahmliiaaGreatDoorZD5
import Derived.Test.YtcadinbahmliiaaGreatDoorRows
import Derived.WalkKit
import Derived.ProofKit
import Derived.OpenShut
import Derived.Carry
import Derived.Deep.Slices
import Derived.Laws.Strings
/- The frame of a law with one slice as its argument: from what its run comes to to the given statement. Conditions: those that each theorem names. -/
namespace Go.Proofs.YtcadinbahmliiaaGreatDoor
open Go.ChangeShapes Go.WideShapes Go.ChangeAt Go.RowKit Go.Deep

theorem own : ownKnob Tryz.prog.godebug = none := by kernel_rfl
theorem laidOut : laidOutB Tryz.prog = true := by kernel_rfl

def SaysYes : Ex → List AV → List AB → Prop := fun _ l _ => l = [.v (.bool true)]

section
variable {H : Type} {enc : TypeId × Value → H} {P : Program}
theorem post_below {f : Func} {s : ChangeSpec} {apart fresh handsOn again : Bool} {W W' : World} {args : Array Value} {v : Value} {ds gs : List (DataW H)} {before pa pv : List MemPlace}
    (hW : DataW.Whole enc P f.params.toList s.vars apart W args.toList ds gs before)
    (hres : ∀ (b : Nat) (sp : Nat → Bool) (hd : Bool), DataW.TrodAll enc P W' b sp hd f.resultTypes.toList (v.resultList f.resultTypes.size) (s.fn H (ds ++ gs)).results [])
    (hargs : ∀ sp : Nat → Bool, (∀ p ∈ before, sp p.block = true) → DataW.TrodAll enc P W' 0 sp true f.params.toList args.toList (s.fn H (ds ++ gs)).args pa)
    (hvars : ∀ sp : Nat → Bool, (∀ p ∈ before, sp p.block = true) → DataW.TrodVars enc P W' sp s.vars (s.fn H (ds ++ gs)).vars pv)
    (hps : before = pa ++ pv) (hb : Below W.heap.size W W')
    (hok : ∀ (j : Nat) (t : TypeId) (r : Value), f.resultTypes[j]? = some t → (v.resultList f.resultTypes.size)[j]? = some r → Value.okWide P W' .any 0 t r) :
    s.post enc P f apart fresh handsOn again W args v W' := by
  have hlt : ∀ p ∈ before, p.block < W.heap.size := fun p hp => hW.lt p hp
  have hold : ∀ p ∈ before, (fun b => decide (b < W.heap.size)) p.block = true := fun p hp => by simpa using hlt p hp
  refine ⟨ds, gs, before, [], pa, pv, hW, hres _ _ _, hargs _ hold, hvars _ hold, World.keptBut_mono (fun p hp => ⟨hp, ?_⟩) (hb.frame (· ∈ before)), fun _ => ?_⟩
  · rw [hps, List.mem_append] at hp
    exact Or.inr hp
  · obtain ⟨_, _, _, _, _, hz, hn⟩ := hW
    refine ⟨hok, _, _, ([] ++ pa) ++ pv, ⟨[] ++ pa, pv, trodAll_append (hargs _ (fun _ _ => rfl)) (hres _ _ _), hvars _ (fun _ _ => rfl), rfl, ?_, ?_⟩, ?_⟩
    · intro b off hp
      have hin : MemPlace.cell b off ∈ before := by rw [hps]; simpa using hp
      rw [hb.frozen (hlt _ hin)]
      exact hz b off hin
    · intro ha
      have := hn ha
      rw [hps] at this
      simpa using this
    · intro p hp _
      rw [hps]
      simpa using hp

end

theorem yes_calls {Γ : Gam} (hΓ : GamOk Tryz.prog Γ) {Λ : Nat → Option Sum} {n : Nat} {f : FuncId} {fn : Func} {avs : List AV} {H : List AB} {ν : Nu} {vals : List Value} {w : World} (hf : Tryz.prog.funcs[f]? = some fn)
    (hL : ∀ c, fn.body = some c → LamOk Tryz.prog H.length Λ c) (h : GoodQ (execF Tryz.prog Γ Λ n fn avs H (packK H.length)) SaysYes) (hv : VRs ν avs vals) (hH : RH (fun k => w.heap.size ≤ k) ν (fun b => H.getD b .gone) w) (hdom : ∀ i b, ν i = some b → i < H.length) :
    Calls Tryz.prog f vals.toArray w fun e w' => e = .returned (.bool true) ∧ Below w.heap.size w w' := by
  refine (calls_pack hΓ mixed enters hf hL (fun k hk => hk) h.out hv hH hdom).mono ?_
  rintro e w' ⟨v, av, H', ν', rfl, hq, hvr, _, hfr, _⟩
  have : [av] = [AV.v (.bool true)] := hq
  simp only [List.cons.injEq, and_true] at this
  subst this
  simp only [VR] at hvr
  subst hvr
  exact ⟨rfl, ⟨hfr.os, hfr.tape, hfr.output, hfr.size, fun k hk => hfr.block k hk (by omega)⟩⟩

def okI (f : Nat → Int) : Prop := ∀ k, -9223372036854775808 ≤ f k ∧ f k ≤ 9223372036854775807

end Go.Proofs.YtcadinbahmliiaaGreatDoor

/- The abstract machine, 27: words for callees by their view, which may hand back what points to rows that are only read. Conditions: those of the table of callees. -/
namespace Go.Proofs.YtcadinbahmliiaaGreatDoor
open Go.RowKit

end Go.Proofs.YtcadinbahmliiaaGreatDoor

/- A reader of bytes: pick, its tree. -/
namespace Go.Proofs.YtcadinbahmliiaaGreatDoor
open Go.RowKit
set_option maxRecDepth 100000

end Go.Proofs.YtcadinbahmliiaaGreatDoor

/- A reader of bytes: what pick returns. Conditions: bytes; the reader's place is at most 2^30. -/
namespace Go.Proofs.YtcadinbahmliiaaGreatDoor
open Go.RowKit
set_option maxRecDepth 100000

end Go.Proofs.YtcadinbahmliiaaGreatDoor

/- The frame of a law over bytes. No conditions. -/
namespace Go.Proofs.YtcadinbahmliiaaGreatDoor
open Go.ChangeShapes Go.WideShapes Go.ChangeAt Go.RowKit Go.Deep
set_option maxRecDepth 100000

section
variable {H : Type} {enc : TypeId × Value → H} {W : World}
end

end Go.Proofs.YtcadinbahmliiaaGreatDoor

/- l91Cyc: its trees. Conditions: those of pick. -/
namespace Go.Proofs.YtcadinbahmliiaaGreatDoor
open Go.RowKit
set_option maxRecDepth 100000

end Go.Proofs.YtcadinbahmliiaaGreatDoor

/- The abstract machine, 28: loops whose table of callees goes by the round. Conditions: those of the tables. -/
namespace Go.Proofs.YtcadinbahmliiaaGreatDoor
open Go.RowKit

end Go.Proofs.YtcadinbahmliiaaGreatDoor

/- l91Cyc: an exact point, whatever the bytes are. Conditions: those of pick. -/
namespace Go.Proofs.YtcadinbahmliiaaGreatDoor
open Go.RowKit
set_option maxRecDepth 100000

end Go.Proofs.YtcadinbahmliiaaGreatDoor

/- l91Turn and l91Design: their trees. Conditions: those of pick. -/
namespace Go.Proofs.YtcadinbahmliiaaGreatDoor
open Go.RowKit
set_option maxRecDepth 100000

end Go.Proofs.YtcadinbahmliiaaGreatDoor

/- l91Turn and l91Design: a number and a list of wheels, whatever the bytes are. Conditions: those of pick. -/
namespace Go.Proofs.YtcadinbahmliiaaGreatDoor
open Go.RowKit
set_option maxRecDepth 100000

end Go.Proofs.YtcadinbahmliiaaGreatDoor

/- What is drawn from bytes: the word of a drawing function. Conditions: bytes, at most 2^21. -/
namespace Go.Proofs.YtcadinbahmliiaaGreatDoor
open Go.RowKit
set_option maxRecDepth 100000

end Go.Proofs.YtcadinbahmliiaaGreatDoor

/- What is drawn: lists of wheels, and numbers. No conditions. -/
namespace Go.Proofs.YtcadinbahmliiaaGreatDoor
open Go.RowKit
set_option maxRecDepth 100000

end Go.Proofs.YtcadinbahmliiaaGreatDoor

/- Helpers of the laws that draw. No conditions. -/
namespace Go.Proofs.YtcadinbahmliiaaGreatDoor
open Go.RowKit
set_option maxRecDepth 100000

theorem tI_len (T : List Wh) : (tI T).length ≤ 12 := by
  unfold tI
  cases h : yI T with
  | false => simp
  | true =>
    rw [yI, Bool.and_eq_true] at h
    exact tidyL_len h.2
theorem tI_spec {L : List Wh} (h : yI L = true) : okD L = true ∧ isTidy (tI L) ∧ ∀ φ, Lin φ → linS φ (tI L) = linS φ L := by
  have hT : tI L = tidyL L := by rw [tI, h]; rfl
  rw [yI, Bool.and_eq_true] at h
  rw [hT]
  exact ⟨h.1, tidyL_lin ((okD_bd h.1).mono (by omega)) h.2⟩
theorem isTidy_nil : isTidy [] := ⟨List.Pairwise.nil, fun w hw => by simp at hw, rfl⟩
theorem tI_tidy (L : List Wh) : isTidy (tI L) := by
  cases h : yI L with
  | true => exact (tI_spec h).2.1
  | false => rw [tI_no h]; exact isTidy_nil
theorem yI_self {T : List Wh} (h : isTidy T) : yI T = true := by
  rw [yI, tidy_okD h, okT_self h]
  rfl
theorem tI_self {T : List Wh} (h : isTidy T) : tI T = T := by
  rw [tI, yI_self h, cond_true, tidyL_self h]
end Go.Proofs.YtcadinbahmliiaaGreatDoor

/- What is written is read back; both sides read the same. Plain. No conditions. -/
namespace Go.Proofs.YtcadinbahmliiaaGreatDoor
open Go.RowKit
set_option maxRecDepth 100000

theorem bytes_ext {a b : ByteArray} (h : a.data.toList = b.data.toList) : a = b := by
  cases a; cases b
  congr 1
  exact Array.ext' h
theorem eqB_eq {a b : ByteArray} (h : eqB a b = true) : a = b := by
  have := of_decide_eq_true h
  rw [ByteArray.toList_eq, ByteArray.toList_eq] at this
  exact bytes_ext this
theorem eqB_ne {a b : ByteArray} (h : a.data.toList ≠ b.data.toList) : eqB a b = false := by
  refine decide_eq_false fun e => h ?_
  rwa [ByteArray.toList_eq, ByteArray.toList_eq] at e
theorem data_mk (l : List UInt8) : (ByteArray.mk l.toArray).data.toList = l := rfl
theorem map_bytes {ws : List ByteArray} {xs : List (List UInt8)} (h : ws.map (·.data.toList) = xs) : ws = xs.map fun l => ⟨l.toArray⟩ := by
  subst h
  rw [List.map_map]
  symm
  exact (List.map_congr_left (g := id) fun b _ => bytes_ext rfl).trans (List.map_id _)

theorem spB_cuC (s : ByteArray) (c : UInt8) : spB s (ByteArray.mk (Array.mk [c])) = (cuC c s.data.toList).map fun l => ⟨l.toArray⟩ := by
  refine map_bytes ?_
  rw [spB, Lib.splitB_data]
  exact splitK_cuC _ _ (Lib.count_one c _).symm

theorem cutP_inv (s : ByteArray) (c : UInt8) : ∀ i : Nat, i ≤ s.size → cuC c s.data.toList = (cutP s (c.toNat : Int) i).1.map (·.data.toList) ++ cuC c (s.data.toList.drop (cutP s (c.toNat : Int) i).2) ∧ ∀ k, (cutP s (c.toNat : Int) i).2 ≤ k → k < i → s.data.toList[k]? ≠ some c
  | 0, _ => ⟨by simp [cutP], fun k _ h => absurd h (Nat.not_lt_zero _)⟩
  | i + 1, h => by
    obtain ⟨h1, h2⟩ := cutP_inv s c i (by omega)
    have hle := (cutP_le s (c.toNat : Int) i).2
    have hsz : s.data.toList.length = s.size := by rw [Array.length_toList]; rfl
    have hb : byB s (i : Int) = ((s.data.toList[i]'(by omega)).toNat : Int) := by
      unfold byB
      rw [Int.toNat_natCast, getElem!_pos s.data i (by have : s.data.size = s.size := rfl; omega)]
      rfl
    have hg : s.data.toList[i]? = some (s.data.toList[i]'(by omega)) := List.getElem?_eq_getElem _
    have hne : ((i : Int) == (s.size : Int)) = false := by rw [beq_eq_false_iff_ne]; omega
    rw [cutP, stepCt, hne, Bool.false_or]
    cases hq : byB s (i : Int) == (c.toNat : Int) with
    | true =>
      have hc : s.data.toList[i]'(by omega) = c := by
        have := eq_of_beq hq
        rw [hb] at this
        exact UInt8.toNat_inj.1 (by omega)
      simp only [cond_true]
      refine ⟨?_, fun k hk hk' => by omega⟩
      rw [h1, List.map_append, List.append_assoc]
      congr 1
      have e : s.data.toList.drop (cutP s (c.toNat : Int) i).2 = (s.extract (cutP s (c.toNat : Int) i).2 i).data.toList ++ c :: s.data.toList.drop (i + 1) := by
        rw [Lib.extract_data]
        have e2 : (s.data.toList.drop (cutP s (c.toNat : Int) i).2).drop (i - (cutP s (c.toNat : Int) i).2) = c :: s.data.toList.drop (i + 1) := by
          rw [List.drop_drop, show (cutP s (c.toNat : Int) i).2 + (i - (cutP s (c.toNat : Int) i).2) = i by omega, List.drop_eq_getElem_cons (by omega), hc]
        rw [← e2, List.take_append_drop]
      rw [e, cuC_app]
      · rfl
      · rw [Lib.extract_data]
        intro hm
        obtain ⟨k, hk⟩ := List.mem_iff_getElem?.1 hm
        rw [List.getElem?_take] at hk
        split at hk
        · rename_i hlt
          rw [List.getElem?_drop] at hk
          exact h2 _ (by omega) (by omega) hk
        · cases hk
    | false =>
      simp only [cond_false]
      refine ⟨h1, fun k hk hk' => ?_⟩
      rcases Nat.lt_or_ge k i with hlt | hge
      · exact h2 k hk hlt
      · have : k = i := by omega
        subst this
        rw [hg]
        intro e
        simp only [Option.some.injEq] at e
        rw [hb, e] at hq
        simp at hq
theorem cutB_cuC (s : ByteArray) (c : UInt8) : cutB s (c.toNat : Int) = (cuC c s.data.toList).map fun l => ⟨l.toArray⟩ := by
  refine map_bytes ?_
  obtain ⟨h1, h2⟩ := cutP_inv s c s.size (Nat.le_refl _)
  have hle := (cutP_le s (c.toNat : Int) s.size).2
  have hsz : s.data.toList.length = s.size := by rw [Array.length_toList]; rfl
  have hfree : c ∉ s.data.toList.drop (cutP s (c.toNat : Int) s.size).2 := fun hm => by
    obtain ⟨k, hk⟩ := List.mem_iff_getElem?.1 hm
    rw [List.getElem?_drop] at hk
    have hlt := (List.getElem?_eq_some_iff.1 hk).1
    exact h2 _ (by omega) (by omega) hk
  rw [h1, cuC_free _ hfree]
  show List.map _ (cutP s (c.toNat : Int) (s.size + 1)).1 = _
  rw [cutP, stepCt, show ((s.size : Int) == (s.size : Int)) = true from beq_self_eq_true _, Bool.true_or]
  simp only [cond_true, List.map_append, List.map_cons, List.map_nil]
  rw [Lib.extract_data, List.take_of_length_le (by rw [List.length_drop]; omega)]

def valD (l : List UInt8) : Int := l.foldl (fun a b => 10 * a + ((b.toNat : Int) - 48)) 0
theorem valD_snoc (l : List UInt8) (b : UInt8) : valD (l ++ [b]) = 10 * valD l + ((b.toNat : Int) - 48) := by
  rw [valD, List.foldl_append]
  rfl
theorem valD_digits (u : Nat) : valD (Lib.decDigits u) = u := by
  induction u using Nat.strongRecOn with
  | _ u ih =>
    have e : ∀ k, k < 10 → ((UInt8.ofNat (48 + k)).toNat : Int) - 48 = k := fun k hk => by
      rw [UInt8.toNat_ofNat']
      omega
    rw [Lib.decDigits]
    split
    · rename_i h
      have := valD_snoc [] (UInt8.ofNat (48 + u))
      rw [List.nil_append] at this
      rw [this, e u h]
      show 10 * valD [] + (u : Int) = u
      rw [show valD [] = 0 from rfl]
      omega
    · rw [valD_snoc, ih (u / 10) (by omega), e _ (Nat.mod_lt _ (by omega))]
      omega
theorem byB_at {s : ByteArray} {i : Nat} (h : i < s.data.toList.length) : byB s (i : Int) = ((s.data.toList[i]).toNat : Int) := by
  unfold byB
  rw [Int.toNat_natCast, getElem!_pos s.data i (by simpa using h)]
  rfl
theorem numP_digits (l : List UInt8) (hl : ∀ b ∈ l, digU b) : ∀ i : Nat, i ≤ l.length → numP ⟨l.toArray⟩ i = (valD (l.take i), 1)
  | 0, _ => rfl
  | i + 1, h => by
    have hb := byB_at (s := ⟨l.toArray⟩) (i := i) (by simp; omega)
    simp only [] at hb
    have hd := hl l[i] (List.getElem_mem (by omega))
    unfold digU at hd
    rw [numP, numP_digits l hl i (by omega), List.take_add_one, List.getElem?_eq_getElem (by omega), show (some l[i]).toList = [l[i]] from rfl, valD_snoc, hb]
    have e1 : ((l[i].toNat : Int) == 45) = false := by rw [beq_eq_false_iff_ne]; omega
    rw [e1, Bool.and_false, decide_eq_true (by omega : (48 : Int) ≤ (l[i].toNat : Int)), decide_eq_true (by omega : (l[i].toNat : Int) ≤ 57)]
    rfl
theorem numP_minus (l : List UInt8) (hl : ∀ b ∈ l, digU b) : ∀ i : Nat, i ≤ l.length → numP ⟨(45 :: l).toArray⟩ (i + 1) = (valD (l.take i), -1)
  | 0, _ => by
    rw [numP]
    rfl
  | i + 1, h => by
    have hb := byB_at (s := ⟨(45 :: l).toArray⟩) (i := i + 1) (by simp; omega)
    simp only [List.getElem_cons_succ] at hb
    have hd := hl l[i] (List.getElem_mem (by omega))
    unfold digU at hd
    rw [numP, numP_minus l hl i (by omega), List.take_add_one, List.getElem?_eq_getElem (by omega), show (some l[i]).toList = [l[i]] from rfl, valD_snoc, hb]
    rw [show Nat.beq (i + 1) 0 = false from rfl, Bool.false_and, decide_eq_true (by omega : (48 : Int) ≤ (l[i].toNat : Int)), decide_eq_true (by omega : (l[i].toNat : Int) ≤ 57)]
    rfl
theorem digits_len {u : Nat} (h : u < 10 ^ 8) : (Lib.decDigits u).length ≤ 8 := by
  rw [Lib.decDigits_length]
  exact nDigits_le 7 u h
theorem numI_itoa (n : Int) (h1 : -100000000 < n) (h2 : n < 100000000) : numI ⟨(Lib.itoa n).toArray⟩ = n := by
  have hm : ∀ l : List UInt8, l.length ≤ 9 → numM ⟨l.toArray⟩ = l.length := fun l h => by
    rw [numM, mk_size]
    omega
  rw [Lib.itoa]
  split
  · rename_i hn
    have hl := digits_len (u := n.natAbs) (by omega)
    have := numP_minus (Lib.decDigits n.natAbs) (decDigits_dig _) (Lib.decDigits n.natAbs).length (Nat.le_refl _)
    rw [numI, hm _ (by simp only [List.length_cons]; omega), List.length_cons, this, List.take_length, valD_digits]
    show (-1 : Int) * (n.natAbs : Int) = n
    omega
  · rename_i hn
    have hl := digits_len (u := n.toNat) (by omega)
    have := numP_digits (Lib.decDigits n.toNat) (decDigits_dig _) (Lib.decDigits n.toNat).length (Nat.le_refl _)
    rw [numI, hm _ (by omega), this, List.take_length, valD_digits]
    show (1 : Int) * (n.toNat : Int) = n
    omega

def eight (r : Cy) : List Int := [r.c0, r.c1, r.c2, r.c3, r.c4, r.c5, r.c6, r.c7]
theorem wtxL_eq (w : Wh) : wtxL w = Lib.itoa w.s ++ 58 :: Lib.join ((eight w.r).map Lib.itoa) [44] := rfl
theorem free58 (n : Int) : (58 : UInt8) ∉ Lib.itoa n := itoa_free (by decide) n
theorem free44 (n : Int) : (44 : UInt8) ∉ Lib.itoa n := itoa_free (by decide) n
theorem free32 (n : Int) : (32 : UInt8) ∉ Lib.itoa n := itoa_free (by decide) n
theorem eight_cut (r : Cy) : cuC 44 (Lib.join ((eight r).map Lib.itoa) [44]) = (eight r).map Lib.itoa := by
  refine cuC_join _ _ fun y hy => ?_
  have hy' : y ∈ (eight r).map Lib.itoa := hy
  obtain ⟨n, _, rfl⟩ := List.mem_map.1 hy'
  exact free44 n
theorem join_mem {b : UInt8} {c : UInt8} : ∀ (xs : List (List UInt8)), b ∈ Lib.join xs [c] → b = c ∨ ∃ x ∈ xs, b ∈ x
  | [], h => by simp [Lib.join_nil] at h
  | x :: xs, h => by
    rw [Lib.join_cons, List.mem_append] at h
    rcases h with h | h
    · exact .inr ⟨x, List.mem_cons_self, h⟩
    · simp only [Lib.joinTail, List.mem_flatten, List.mem_map] at h
      obtain ⟨l, ⟨y, hy, rfl⟩, hb⟩ := h
      rcases List.mem_append.1 hb with hb | hb
      · exact .inl (by simpa using hb)
      · exact .inr ⟨y, List.mem_cons_of_mem _ hy, hb⟩
theorem join8_free {b : UInt8} (r : Cy) (h1 : b ≠ 44) (h2 : ∀ n, b ∉ Lib.itoa n) : b ∉ Lib.join ((eight r).map Lib.itoa) [44] := fun hb => by
  rcases join_mem _ hb with e | ⟨x, hx, hb⟩
  · exact h1 e
  · obtain ⟨n, _, rfl⟩ := List.mem_map.1 hx
    exact h2 n hb
theorem wtx_free (w : Wh) : (32 : UInt8) ∉ wtxL w := by
  rw [wtxL_eq, List.mem_append, List.mem_cons]
  rintro (h | h | h)
  · exact free32 _ h
  · cases h
  · exact join8_free w.r (by decide) free32 h
theorem itoa_at {n : Int} (h : -1000000 ≤ n ∧ n ≤ 1000000) : atE ⟨(Lib.itoa n).toArray⟩ = false ∧ atV ⟨(Lib.itoa n).toArray⟩ = n := by
  have := atoi_itoa n (by omega) (by omega)
  constructor
  · rw [atE, data_mk, this]
  · rw [atV, data_mk, this]

theorem wo_wtx {w : Wh} (h : okw w = true) : wo (wtx w) = (w, true) := by
  have h9 := okw_9 h
  simp only [List.forall_mem_cons, List.not_mem_nil, false_imp_iff, implies_true, and_true] at h9
  obtain ⟨b0, b1, b2, b3, b4, b5, b6, b7, b8⟩ := h9
  have hc : Lib.cut (wtx w).data.toList colon.data.toList = (Lib.itoa w.s, Lib.join ((eight w.r).map Lib.itoa) [44], true) := by
    show Lib.cut (wtxL w) [58] = _
    rw [wtxL_eq]
    exact cut_app (free58 _)
  have hA : cuA (wtx w) colon = ⟨(Lib.itoa w.s).toArray⟩ := by rw [cuA, hc]
  have hB : cuB (wtx w) colon = ⟨(Lib.join ((eight w.r).map Lib.itoa) [44]).toArray⟩ := by rw [cuB, hc]
  have hs : spB (cuB (wtx w) colon) comma = ((eight w.r).map Lib.itoa).map fun l => ⟨l.toArray⟩ := by
    rw [hB, show comma = ByteArray.mk (Array.mk [44]) from rfl, spB_cuC, data_mk, eight_cut]
  rw [wo, spLn, hs]
  simp only [List.length_map, eight, List.length_cons, List.length_nil, Nat.reduceAdd]
  rw [show Nat.beq 8 8 = true from rfl, cond_true, hA]
  have g : ∀ j, spG (cuB (wtx w) colon) comma j = (((eight w.r).map Lib.itoa).map fun l => (⟨l.toArray⟩ : ByteArray)).getD j ⟨#[]⟩ := fun j => by rw [spG, hs]
  have g0 : spG (cuB (wtx w) colon) comma 0 = ⟨(Lib.itoa w.r.c0).toArray⟩ := g 0
  have g1 : spG (cuB (wtx w) colon) comma 1 = ⟨(Lib.itoa w.r.c1).toArray⟩ := g 1
  have g2 : spG (cuB (wtx w) colon) comma 2 = ⟨(Lib.itoa w.r.c2).toArray⟩ := g 2
  have g3 : spG (cuB (wtx w) colon) comma 3 = ⟨(Lib.itoa w.r.c3).toArray⟩ := g 3
  have g4 : spG (cuB (wtx w) colon) comma 4 = ⟨(Lib.itoa w.r.c4).toArray⟩ := g 4
  have g5 : spG (cuB (wtx w) colon) comma 5 = ⟨(Lib.itoa w.r.c5).toArray⟩ := g 5
  have g6 : spG (cuB (wtx w) colon) comma 6 = ⟨(Lib.itoa w.r.c6).toArray⟩ := g 6
  have g7 : spG (cuB (wtx w) colon) comma 7 = ⟨(Lib.itoa w.r.c7).toArray⟩ := g 7
  rw [woR, g0, g1, g2, g3, g4, g5, g6, g7, (itoa_at b0).1, (itoa_at b1).1, (itoa_at b2).1, (itoa_at b3).1, (itoa_at b4).1, (itoa_at b5).1, (itoa_at b6).1, (itoa_at b7).1, (itoa_at b8).1,
    (itoa_at b0).2, (itoa_at b1).2, (itoa_at b2).2, (itoa_at b3).2, (itoa_at b4).2, (itoa_at b5).2, (itoa_at b6).2, (itoa_at b7).2, (itoa_at b8).2]
  rfl
theorem whS_wtx {w : Wh} (h : okw w = true) : okRS (wtx w) = true ∧ whS (wtx w) = w := by
  have h9 := okw_9 h
  simp only [List.forall_mem_cons, List.not_mem_nil, false_imp_iff, implies_true, and_true] at h9
  obtain ⟨b0, b1, b2, b3, b4, b5, b6, b7, b8⟩ := h9
  have h1 : cutB (wtx w) 58 = [⟨(Lib.itoa w.s).toArray⟩, ⟨(Lib.join ((eight w.r).map Lib.itoa) [44]).toArray⟩] := by
    rw [show (58 : Int) = (((58 : UInt8).toNat : Nat) : Int) from rfl, cutB_cuC]
    show List.map _ (cuC 58 (wtxL w)) = _
    rw [wtxL_eq, cuC_app _ _ (free58 _), cuC_free _ (join8_free w.r (by decide) free58)]
    rfl
  have e0 : cuG (wtx w) 58 0 = ⟨(Lib.itoa w.s).toArray⟩ := by rw [cuG, h1]; rfl
  have e1 : cuG (wtx w) 58 1 = ⟨(Lib.join ((eight w.r).map Lib.itoa) [44]).toArray⟩ := by rw [cuG, h1]; rfl
  have h2 : cutB (cuG (wtx w) 58 1) 44 = ((eight w.r).map Lib.itoa).map fun l => ⟨l.toArray⟩ := by
    rw [e1, show (44 : Int) = (((44 : UInt8).toNat : Nat) : Int) from rfl, cutB_cuC, data_mk, eight_cut]
  have g0 : cuG (cuG (wtx w) 58 1) 44 0 = ⟨(Lib.itoa w.r.c0).toArray⟩ := by rw [cuG, h2]; rfl
  have g1 : cuG (cuG (wtx w) 58 1) 44 1 = ⟨(Lib.itoa w.r.c1).toArray⟩ := by rw [cuG, h2]; rfl
  have g2 : cuG (cuG (wtx w) 58 1) 44 2 = ⟨(Lib.itoa w.r.c2).toArray⟩ := by rw [cuG, h2]; rfl
  have g3 : cuG (cuG (wtx w) 58 1) 44 3 = ⟨(Lib.itoa w.r.c3).toArray⟩ := by rw [cuG, h2]; rfl
  have g4 : cuG (cuG (wtx w) 58 1) 44 4 = ⟨(Lib.itoa w.r.c4).toArray⟩ := by rw [cuG, h2]; rfl
  have g5 : cuG (cuG (wtx w) 58 1) 44 5 = ⟨(Lib.itoa w.r.c5).toArray⟩ := by rw [cuG, h2]; rfl
  have g6 : cuG (cuG (wtx w) 58 1) 44 6 = ⟨(Lib.itoa w.r.c6).toArray⟩ := by rw [cuG, h2]; rfl
  have g7 : cuG (cuG (wtx w) 58 1) 44 7 = ⟨(Lib.itoa w.r.c7).toArray⟩ := by rw [cuG, h2]; rfl
  refine ⟨?_, ?_⟩
  · rw [okRS, cuN, cuN, h1, h2]
    rfl
  · rw [whS, e0, g0, g1, g2, g3, g4, g5, g6, g7, numI_itoa _ (by omega) (by omega), numI_itoa _ (by omega) (by omega), numI_itoa _ (by omega) (by omega), numI_itoa _ (by omega) (by omega), numI_itoa _ (by omega) (by omega), numI_itoa _ (by omega) (by omega), numI_itoa _ (by omega) (by omega), numI_itoa _ (by omega) (by omega), numI_itoa _ (by omega) (by omega)]

theorem text_cut {w : Wh} {L : List Wh} : cuC 32 (textB (w :: L)).data.toList = (w :: L).map wtxL := by
  show cuC 32 (textL (w :: L)) = _
  refine cuC_join _ _ fun y hy => ?_
  have hy' : y ∈ (w :: L).map wtxL := hy
  obtain ⟨w', _, rfl⟩ := List.mem_map.1 hy'
  exact wtx_free w'
theorem text_dash (w : Wh) (L : List Wh) : eqB (textB (w :: L)) dash = false := by
  refine eqB_ne fun e => ?_
  have h58 : (58 : UInt8) ∈ (textB (w :: L)).data.toList := by
    show (58 : UInt8) ∈ textL (w :: L)
    rw [textL, List.map_cons, Lib.join_cons, List.mem_append, wtxL_eq, List.mem_append]
    exact .inl (.inr List.mem_cons_self)
  rw [e] at h58
  simp [dash] at h58
theorem text_nil : textB [] = dash := rfl
theorem re_text {L : List Wh} (h : ∀ w ∈ L, okw w = true) : reL (textB L) = L ∧ (eqB (textB L) dash || reW (textB L)) = true := by
  cases L with
  | nil => exact ⟨by rw [reL, text_nil, eqB_self]; rfl, by rw [text_nil, eqB_self]; rfl⟩
  | cons w L =>
    have hs : spB (textB (w :: L)) spc = (w :: L).map wtx := by
      rw [show spc = ByteArray.mk (Array.mk [32]) from rfl, spB_cuC, text_cut, List.map_map]
      rfl
    constructor
    · rw [reL, text_dash, cond_false, hs, List.map_map]
      exact (List.map_congr_left (g := id) fun x hx => by simp only [Function.comp, id, wo_wtx (h x hx)]).trans (List.map_id _)
    · rw [reW, hs, List.all_map]
      have : ((w :: L).all ((fun w => (wo w).2) ∘ wtx)) = true := List.all_eq_true.2 fun x hx => by simp only [Function.comp, wo_wtx (h x hx)]
      rw [this, Bool.or_true]
theorem rs_text {L : List Wh} (h : ∀ w ∈ L, okw w = true) : eqB (textB L) dash = true ∧ L = [] ∨ eqB (textB L) dash = false ∧ reS (textB L) = L ∧ reG (textB L) = true := by
  cases L with
  | nil => exact .inl ⟨by rw [text_nil, eqB_self], rfl⟩
  | cons w L =>
    have hs : cutB (textB (w :: L)) 32 = (w :: L).map wtx := by
      rw [show (32 : Int) = (((32 : UInt8).toNat : Nat) : Int) from rfl, cutB_cuC, text_cut, List.map_map]
      rfl
    refine .inr ⟨text_dash w L, ?_, ?_⟩
    · rw [reS, hs, List.map_map]
      exact (List.map_congr_left (g := id) fun x hx => by simp only [Function.comp, id, (whS_wtx (h x hx)).2]).trans (List.map_id _)
    · rw [reG, hs, List.all_map]
      exact List.all_eq_true.2 fun x hx => by simp only [Function.comp, (whS_wtx (h x hx)).1]

theorem tidy_okw {T : List Wh} (h : isTidy T) : ∀ w ∈ T, okw w = true := okD_okw (tidy_okD h)
theorem re_iff (s : ByteArray) (T : List Wh) : (yRI s = true ∧ tRI s = T) ↔ (isTidy T ∧ textB T = s ∧ s.size ≤ 1500) := by
  constructor
  · rintro ⟨h1, rfl⟩
    have h1' := h1
    rw [yRI, Bool.and_eq_true, Bool.and_eq_true, reK, Bool.and_eq_true] at h1'
    obtain ⟨⟨⟨a, _⟩, _⟩, d⟩ := h1'
    have e : tRI s = tI (reL s) := by rw [tRI, h1]; rfl
    rw [e]
    exact ⟨tI_tidy _, eqB_eq d, of_decide_eq_true a⟩
  · rintro ⟨hT, rfl, hs⟩
    obtain ⟨e1, e2⟩ := re_text (tidy_okw hT)
    have hy : yRI (textB T) = true := by rw [yRI, reK, e1, e2, yI_self hT, tI_self hT, eqB_self, decide_eq_true hs]; rfl
    exact ⟨hy, by rw [tRI, hy, e1, tI_self hT]; rfl⟩
theorem rs_iff (s : ByteArray) (T : List Wh) : (yRS s = true ∧ tRS s = T) ↔ (isTidy T ∧ textB T = s ∧ s.size ≤ 1500) := by
  constructor
  · rintro ⟨h1, rfl⟩
    have h1' := h1
    rw [yRS, Bool.and_eq_true] at h1'
    obtain ⟨a, b⟩ := h1'
    cases hd : eqB s dash with
    | true =>
      have e : tRS s = [] := by rw [tRS, hd, Bool.not_true, Bool.and_false]; rfl
      rw [e]
      exact ⟨isTidy_nil, (eqB_eq hd).symm, of_decide_eq_true a⟩
    | false =>
      rw [hd, Bool.false_or, Bool.and_eq_true, Bool.and_eq_true] at b
      obtain ⟨⟨b1, b2⟩, b3⟩ := b
      have e : tRS s = reS s := by rw [tRS, h1, hd]; rfl
      have et : txV (reS s) = textB (tI (reS s)) := by rw [txV, b2]; rfl
      rw [et] at b3
      have hs := eqB_eq b3
      have hT := tI_tidy (reS s)
      rcases rs_text (tidy_okw hT) with ⟨k1, _⟩ | ⟨_, k2, _⟩
      · rw [hs, hd] at k1
        cases k1
      · rw [hs] at k2
        rw [e]
        generalize tI (reS s) = T at hs hT k2
        subst k2
        exact ⟨hT, hs, of_decide_eq_true a⟩
  · rintro ⟨hT, rfl, hs⟩
    rcases rs_text (tidy_okw hT) with ⟨k1, rfl⟩ | ⟨k1, k2, k3⟩
    · have hy : yRS (textB []) = true := by rw [yRS, k1, decide_eq_true hs]; rfl
      exact ⟨hy, by rw [tRS, k1, Bool.not_true, Bool.and_false]; rfl⟩
    · have ht : txV T = textB T := by rw [txV, yI_self hT, cond_true, tI_self hT]
      have hy : yRS (textB T) = true := by rw [yRS, k1, k2, k3, yI_self hT, ht, eqB_self, decide_eq_true hs]; rfl
      exact ⟨hy, by rw [tRS, hy, k1, k2]; rfl⟩
theorem re_rs (s : ByteArray) : yRS s = yRI s ∧ tRS s = tRI s := by
  cases h : yRI s with
  | true =>
    obtain ⟨h1, h2⟩ := (rs_iff s (tRI s)).2 ((re_iff s (tRI s)).1 ⟨h, rfl⟩)
    exact ⟨h1, h2⟩
  | false =>
    have hs : yRS s = false := by
      cases h2 : yRS s with
      | false => rfl
      | true =>
        have := ((re_iff s (tRS s)).2 ((rs_iff s (tRS s)).1 ⟨h2, rfl⟩)).1
        rw [h] at this
        cases this
    exact ⟨hs, by rw [tRS, hs, tRI, h]; rfl⟩
end Go.Proofs.YtcadinbahmliiaaGreatDoor

/- EntryRight of both: trees. Conditions: an entry. -/
namespace Go.Proofs.YtcadinbahmliiaaGreatDoor
open Go.RowKit
set_option maxRecDepth 100000

def gmErI (yr : ByteArray → Bool) (tr : ByteArray → List Wh) (cv : List Wh → Int) (cy : List Wh → Bool) : Gam := ext (ext g0 18 (specU [.val] (UreO yr tr))) 41 (specR md_ws (FckO cv cy))
def gmErS (yr : ByteArray → Bool) (tr : ByteArray → List Wh) (cv : List Wh → Int) (cy : List Wh → Bool) : Gam := ext (ext g0 35 (specR [.val] (FreO yr tr))) 36 (specR md_ws (FckO cv cy))
theorem treeErI (yr : ByteArray → Bool) (tr : ByteArray → List Wh) (cv : List Wh → Int) (cy : List Wh → Bool) (s : ByteArray) (c : Int) : execF Tryz.prog (gmErI yr tr cv cy) noLam 100 Tryz.f13 [.v (.agg ⟨[.string s, .int .u32 c]⟩)] [] (packK 0)
    = needs [Nat.ble ((0 : Nat) + List.length (tr s)) (List.length (tr s)), allW (List.length (tr s)) fun q ↦ row9 (wfun (tr s)) ((0 : Nat) + q), decide (List.length (tr s) ≤ (274877906944 : Nat))] (bif yr s then bif cy (listW (itW fun q ↦ row9 (wfun (tr s)) ((0 : Nat) + q)) (List.length (tr s))) then Res.out .ret [AV.v (.bool (cv (listW (itW fun q ↦ row9 (wfun (tr s)) ((0 : Nat) + q)) (List.length (tr s))) == c))] [] else Res.out .ret [AV.v (.bool false)] [] else Res.out .ret [AV.v (.bool false)] []) := by kernel_rfl

theorem treeErS (yr : ByteArray → Bool) (tr : ByteArray → List Wh) (cv : List Wh → Int) (cy : List Wh → Bool) (s : ByteArray) (c : Int) : execF Tryz.prog (gmErS yr tr cv cy) noLam 100 Tryz.f11 [.v (.agg ⟨[.string s, .int .u32 c]⟩)] [] (packK 0)
    = bif !yr s then Res.out .ret [AV.v (.bool false)] [] else needs [Nat.ble (List.length (tr s)) (List.length (tr s)), allW (List.length (tr s)) (row9 (wfun (tr s))), decide (List.length (tr s) ≤ (274877906944 : Nat))] (bif cy (listW (itW (row9 (wfun (tr s)))) (List.length (tr s))) then Res.out .ret [AV.v (.bool (cv (listW (itW (row9 (wfun (tr s)))) (List.length (tr s))) == c))] [] else Res.out .ret [AV.v (.bool false)] []) := by kernel_rfl

end Go.Proofs.YtcadinbahmliiaaGreatDoor

/- l1Gcd, the reference's: its word. Conditions: numbers of 64 bits. -/
namespace Go.Proofs.YtcadinbahmliiaaGreatDoor
open Go.RowKit
set_option maxRecDepth 100000

end Go.Proofs.YtcadinbahmliiaaGreatDoor

/- The reference's RingDesign: trees; greatest common divisors. Conditions: numbers of 64 bits. -/
namespace Go.Proofs.YtcadinbahmliiaaGreatDoor
open Go.RowKit
set_option maxRecDepth 100000

end Go.Proofs.YtcadinbahmliiaaGreatDoor

/- l92Design: its trees. Conditions: those of pick. -/
namespace Go.Proofs.YtcadinbahmliiaaGreatDoor
open Go.RowKit
set_option maxRecDepth 100000

end Go.Proofs.YtcadinbahmliiaaGreatDoor

/- l92Design: a list of wheels, whatever the bytes are. Conditions: those of pick. -/
namespace Go.Proofs.YtcadinbahmliiaaGreatDoor
open Go.RowKit
set_option maxRecDepth 100000

end Go.Proofs.YtcadinbahmliiaaGreatDoor

/- What is drawn: designs with some symmetry. No conditions. -/
namespace Go.Proofs.YtcadinbahmliiaaGreatDoor
open Go.RowKit
set_option maxRecDepth 100000

end Go.Proofs.YtcadinbahmliiaaGreatDoor

/- EntryRight of both: their words; what is drawn: entries. Conditions: none. -/
namespace Go.Proofs.YtcadinbahmliiaaGreatDoor
open Go.RowKit
set_option maxRecDepth 100000

def erB (s : ByteArray) (c : Int) : Bool := yRI s && (ckY (tRI s) && (ckV (tRI s) == c))
def FerO (er : ByteArray → Int → Bool) : List SA → Option FR
  | [.v (.agg ⟨[.string s, .int .u32 c]⟩)] => some { val := .v (.bool (er s c)) }
  | _ => none
theorem tRI_len (s : ByteArray) : (tRI s).length ≤ 12 := by
  unfold tRI
  cases yRI s with
  | true => exact tI_len _
  | false => exact Nat.zero_le _
theorem gmErI_ok : GamOk Tryz.prog (gmErI yRI tRI ckV ckY) := ext_ok (ext_ok g0_ok ok_Ure) ok_ckI
theorem gmErS_ok : GamOk Tryz.prog (gmErS yRS tRS ckV ckY) := ext_ok (ext_ok g0_ok ok_reS) ok_ckS
theorem ok_erI : SpecOk Tryz.prog 13 (specR [.val] (FerO erB)) := by
  refine specR_hr gmErI_ok Tryz.func13 rfl fun sas fr hF ho => ?_
  unfold FerO at hF
  split at hF
  · rename_i s c
    cases hF
    refine ⟨[], noLam, 100, Hsim.refl _, noLam' _, ?_⟩
    show GoodQ (execF Tryz.prog (gmErI yRI tRI ckV ckY) noLam 100 Tryz.f13 [.v (.agg ⟨[.string s, .int .u32 c]⟩)] [] (packK 0)) _
    have fin : ∀ b, erB s c = b → GivR (abP [Md.val] [SA.v (.agg ⟨[.string s, .int .u32 c]⟩)] []) { val := .v (.bool (erB s c)) } .ret [.v (.bool b)] [] := fun b h => ⟨_, by rw [h]; rfl, rfl, Hsim.refl _⟩
    have hl := tRI_len s
    rw [treeErI]
    simp only [row0]
    rw [show listW (itW (row9 (wfun (tRI s)))) (tRI s).length = tRI s from listW_self _ _ rfl]
    refine good_needs (by simp only [ob_cons, ob_nil, and_true, decide_eq_true_eq, Nat.ble_eq, allW_row, true_and]; omega) (good_cond (fun h1 => good_cond (fun h2 => good_out (fin _ ?_)) fun h2 => good_out (fin _ ?_)) fun h1 => good_out (fin _ ?_))
    · rw [erB, h1, h2]; rfl
    · rw [erB, h1, h2]; rfl
    · rw [erB, h1]; rfl
  · cases hF
theorem ok_erS : SpecOk Tryz.prog 11 (specR [.val] (FerO erB)) := by
  refine specR_hr gmErS_ok Tryz.func11 rfl fun sas fr hF ho => ?_
  unfold FerO at hF
  split at hF
  · rename_i s c
    cases hF
    refine ⟨[], noLam, 100, Hsim.refl _, noLam' _, ?_⟩
    show GoodQ (execF Tryz.prog (gmErS yRS tRS ckV ckY) noLam 100 Tryz.f11 [.v (.agg ⟨[.string s, .int .u32 c]⟩)] [] (packK 0)) _
    have fin : ∀ b, erB s c = b → GivR (abP [Md.val] [SA.v (.agg ⟨[.string s, .int .u32 c]⟩)] []) { val := .v (.bool (erB s c)) } .ret [.v (.bool b)] [] := fun b h => ⟨_, by rw [h]; rfl, rfl, Hsim.refl _⟩
    have hl := tRI_len s
    rw [treeErS, (re_rs s).1, (re_rs s).2, show listW (itW (row9 (wfun (tRI s)))) (tRI s).length = tRI s from listW_self _ _ rfl]
    refine good_cond (fun h1 => good_out (fin _ ?_)) fun h1 => good_needs (by simp only [ob_cons, ob_nil, and_true, decide_eq_true_eq, Nat.ble_eq, allW_row, true_and]; omega) (good_cond (fun h2 => good_out (fin _ ?_)) fun h2 => good_out (fin _ ?_))
    · rw [Bool.not_eq_true'] at h1
      rw [erB, h1]; rfl
    · rw [Bool.not_eq_false'] at h1
      rw [erB, h1, h2]; rfl
    · rw [Bool.not_eq_false'] at h1
      rw [erB, h1, h2]; rfl
  · cases hF
end Go.Proofs.YtcadinbahmliiaaGreatDoor

/- What is drawn: entries. Conditions: bytes. -/
namespace Go.Proofs.YtcadinbahmliiaaGreatDoor
open Go.RowKit
set_option maxRecDepth 100000

end Go.Proofs.YtcadinbahmliiaaGreatDoor

/- DrawDesignCheck: a list of wheels. Conditions: bytes, at most 2^21. -/
namespace Go.Proofs.YtcadinbahmliiaaGreatDoor
open Go.RowKit
set_option maxRecDepth 100000

end Go.Proofs.YtcadinbahmliiaaGreatDoor

/- The greatest common divisor, of both. Conditions: numbers up to 10^12. -/
namespace Go.Proofs.YtcadinbahmliiaaGreatDoor
open Go.RowKit
set_option maxRecDepth 100000

end Go.Proofs.YtcadinbahmliiaaGreatDoor

/- DesignPeriod and DesignFold of both: trees. Conditions: a list of wheels. -/
namespace Go.Proofs.YtcadinbahmliiaaGreatDoor
open Go.RowKit
set_option maxRecDepth 100000

end Go.Proofs.YtcadinbahmliiaaGreatDoor

/- DesignPeriod and DesignFold of both: their words. Conditions: a list of wheels. -/
namespace Go.Proofs.YtcadinbahmliiaaGreatDoor
open Go.RowKit
set_option maxRecDepth 100000

end Go.Proofs.YtcadinbahmliiaaGreatDoor

/- FnCheck: its tree. Conditions: bytes. -/
namespace Go.Proofs.YtcadinbahmliiaaGreatDoor
open Go.RowKit
set_option maxRecDepth 100000

end Go.Proofs.YtcadinbahmliiaaGreatDoor

/- FnCheck returns true, whatever the bytes are. Conditions: bytes. -/
namespace Go.Proofs.YtcadinbahmliiaaGreatDoor
open Go.RowKit
set_option maxRecDepth 100000

end Go.Proofs.YtcadinbahmliiaaGreatDoor

/- The laws of entries: FnExactEntryRight, FnEntry, FnRight return true. Conditions: bytes; an entry. -/
namespace Go.Proofs.YtcadinbahmliiaaGreatDoor
open Go.RowKit
set_option maxRecDepth 100000

end Go.Proofs.YtcadinbahmliiaaGreatDoor

/- The frame of a law over an entry. No conditions. -/
namespace Go.Proofs.YtcadinbahmliiaaGreatDoor
open Go.ChangeShapes Go.WideShapes Go.ChangeAt Go.RowKit Go.Deep
set_option maxRecDepth 100000

section
variable {H : Type} {enc : TypeId × Value → H} {W : World}
theorem entry_elem (n : Nat) (cs : List Value) (x : DataW H × List MemPlace) (hl : cs.length = 2) (h : DataW.trod enc Tryz.prog W 0 (fun _ => true) true n 24 cs = some x) :
    ∃ (s : ByteArray) (c : Int), s.size ≤ maxLen ∧ cs = [.string s, .int .u32 c] := by
  obtain ⟨xs, n', _, _, _, hlen, hg⟩ := DataW.trod_struct Tryz.underlying24 h
  have h0 : DataW.trod enc Tryz.prog W 0 (fun _ => true) true n' 9 ((cs.drop 0).take (Tryz.prog.cellsOf 9)) = xs[0]? := hg 0 _ rfl
  have h1 : DataW.trod enc Tryz.prog W 0 (fun _ => true) true n' 22 ((cs.drop 1).take (Tryz.prog.cellsOf 22)) = xs[1]? := hg 1 _ rfl
  have c0 : Tryz.prog.cellsOf 9 = 1 := by kernel_rfl
  have c1 : Tryz.prog.cellsOf 22 = 1 := by kernel_rfl
  have hx0 : xs[0]? = some (xs[0]'(by rw [hlen]; decide)) := List.getElem?_eq_getElem _
  have hx1 : xs[1]? = some (xs[1]'(by rw [hlen]; decide)) := List.getElem?_eq_getElem _
  rw [hx0, c0] at h0
  rw [hx1, c1] at h1
  obtain ⟨s, e0, _, hs⟩ := DataW.trod_string Tryz.underlying9 h0
  obtain ⟨k, e1, _, _⟩ := DataW.trod_int Tryz.underlying22 h1
  match cs, hl with
  | [a, b], _ =>
    simp at e0 e1
    subst e0 e1
    exact ⟨s, k, hs, rfl⟩
end

end Go.Proofs.YtcadinbahmliiaaGreatDoor

/- A list of wheels that came in. No conditions. -/
namespace Go.Proofs.YtcadinbahmliiaaGreatDoor
open Go.ChangeShapes Go.WideShapes Go.ChangeAt Go.RowKit Go.Deep
set_option maxRecDepth 100000

section
variable {H : Type} {enc : TypeId × Value → H} {W : World}
end

end Go.Proofs.YtcadinbahmliiaaGreatDoor

/- The frames of laws over a list of entries. No conditions. -/
namespace Go.Proofs.YtcadinbahmliiaaGreatDoor
open Go.ChangeShapes Go.WideShapes Go.ChangeAt Go.RowKit Go.Deep
set_option maxRecDepth 100000

section
variable {H : Type} {enc : TypeId × Value → H} {P : Program}
theorem arg_rowG {α : Type} (a0 : α) {W : World} {base s : Nat} {t e : TypeId} {v : Value} {d : DataW H} {p : List MemPlace} (ht : P.underlying t = some (.slice e)) (hc : P.cellsOf e = s) (hs : 0 < s) (hv : Value.okWide P W .any base t v)
    (h : DataW.Trod enc P W 0 (fun _ => true) true t v d p) (row : α → List Value) (ok : α → Prop) (hrow : ∀ f, (row f).length = s ∧ ∀ x ∈ row f, x.oneCell' = true)
    (he : ∀ n cs x, cs.length = s → DataW.trod enc P W 0 (fun _ => true) true n e cs = some x → ∃ f, ok f ∧ cs = row f) (tt : TypeId) (htab : TabOk (fun k => W.heap.size ≤ k) W) :
    ∃ (m : Nat) (ν : Nu) (g : Nat → α), m ≤ 9223372036854775807 ∧ (∀ j, j < m → ok (g j)) ∧ VR ν (.sl 0 s 0 0 m none) v ∧ RH (fun k => W.heap.size ≤ k) ν (fun b => ([AB.row false m s (fun j => row (g j)) tt] : List AB).getD b .gone) W ∧ ∀ i b, ν i = some b → i < 1 := by
  obtain ⟨pt, len, cap, rfl⟩ := okWide_slice ht hv
  obtain ⟨fuel, hf⟩ := h
  have empty : ∀ c, VR (fun _ => none) (.sl 0 s 0 0 0 none) (.slice pt 0 c) → ∃ (m : Nat) (ν : Nu) (g : Nat → α), m ≤ 9223372036854775807 ∧ (∀ j, j < m → ok (g j)) ∧ VR ν (.sl 0 s 0 0 m none) (.slice pt 0 c) ∧ RH (fun k => W.heap.size ≤ k) ν (fun b => ([AB.row false m s (fun j => row (g j)) tt] : List AB).getD b .gone) W ∧ ∀ i b, ν i = some b → i < 1 := by
    intro c hvr
    refine ⟨0, fun _ => none, fun _ => a0, by omega, fun j hj => by omega, hvr, ⟨fun i => ?_, fun i j b b' _ _ _ h => by simp at h, fun i b _ h => by simp at h, (fun i b h => by simp at h), htab⟩, fun i b h => by simp at h⟩
    match i with
    | 0 => exact .inl ⟨rfl, rfl, rfl⟩
    | n + 1 => trivial
  rcases open_slice ht hf with ⟨h0, _⟩ | ⟨a, len', cap', m, n, D, Pl, hcs, hb, hl, hm, hmm, hx, hi⟩
  · simp only [Value.cells] at h0
    simp at h0
    obtain ⟨rfl, rfl, rfl⟩ := h0
    exact empty 0 (by simp only [VR]; exact ⟨none, 0, rfl, by simp, Nat.le_refl _, by omega⟩)
  · simp only [Value.cells] at hcs
    simp at hcs
    obtain ⟨rfl, rfl, rfl⟩ := hcs
    simp only [if_true] at hmm
    subst hmm
    unfold maxLen at hm
    by_cases hz : m = 0
    · subst hz
      have : len = 0 := by omega
      subst this
      exact empty 0 (by simp only [VR]; exact ⟨some a, 0, rfl, by simp, Nat.le_refl _, by omega⟩)
    · have cells : ∀ i, ∃ f, i < m → ok f ∧ ∀ k, k < s → W.cell? ((a.add (i * s)).add k) = (row f)[k]? := by
        intro i
        by_cases him : i < m
        · obtain ⟨cs', h1, h2⟩ := hi i him
          rw [hc] at h1
          obtain ⟨_, h3, h4⟩ := World.cells?_some h1
          obtain ⟨f, h5, h6⟩ := he n cs' _ h3 h2
          exact ⟨f, fun _ => ⟨h5, fun k hk => by rw [h4 k hk, h6]⟩⟩
        · exact ⟨a0, fun h => absurd h him⟩
      have get : ∀ i k, i < m → k < s → ∃ x, (row (Classical.choose (cells i)))[k]? = some x := fun i k _ hk => by
        have := (hrow (Classical.choose (cells i))).1
        exact ⟨_, List.getElem?_eq_getElem (by omega)⟩
      obtain ⟨x0, hx0⟩ := get 0 0 (by omega) hs
      have c0 := ((Classical.choose_spec (cells 0)) (by omega)).2 0 hs
      rw [hx0, Nat.zero_mul] at c0
      have hspot : a.spot = none := by
        have := World.cell?_spot c0
        simpa [Addr.add] using this
      obtain ⟨bl, off, sp⟩ := a
      simp only at hspot
      subst hspot
      have e0 : ((⟨bl, off, none⟩ : Addr).add 0).add 0 = ⟨bl, off, none⟩ := by simp [Addr.add]
      rw [e0] at c0
      obtain ⟨o, ho⟩ : ∃ o, W.heap[bl]? = some o := by
        unfold World.cell? at c0
        split at c0
        · exact ⟨_, by assumption⟩
        · cases c0
      obtain ⟨l, t', fz, rfl⟩ : ∃ l t' fz, o = .cells (List.toArray l) t' fz := by
        unfold World.cell? at c0
        simp only [ho] at c0
        cases o with
        | cells c t' fz => exact ⟨c.toList, t', fz, by simp⟩
        | _ => cases c0
      refine ⟨len, fun i => if i = 0 then some ⟨bl, off, m⟩ else none, fun i => Classical.choose (cells i), by omega, fun j hj => ((Classical.choose_spec (cells j)) (by omega)).1, ?_, ⟨fun i => ?_, fun i j b b' hij hw _ h1 h2 => ?_, fun i b hw h1 => ?_, fun i b h1 => ?_, htab⟩, fun i b h1 => ?_⟩
      · simp only [VR]
        exact ⟨_, m, rfl, by simp, hl, fun _ => ⟨_, rfl, by simp⟩⟩
      · match i with
        | 0 =>
          refine .inr ⟨⟨bl, off, m⟩, l, t', fz, rfl, ho, fun h => by simp at h, hl, fun j hj => ⟨hrow _, fun k hk => ?_⟩⟩
          have := ((Classical.choose_spec (cells j)) (by omega)).2 k hk
          rw [← this]
          have e1 : ((⟨bl, off, none⟩ : Addr).add (j * s)).add k = ⟨bl, off + (j * s + k), none⟩ := by
            rw [addr_add, addr_add, Nat.add_assoc]
          rw [e1, cell_at ho]
        | n + 1 => trivial
      · match i with
        | 0 => simp [AB.wr] at hw
        | n + 1 => simp at h1
      · match i with
        | 0 => simp [AB.wr] at hw
        | n + 1 => simp at h1
      · match i with
        | 0 =>
          simp at h1
          subst h1
          exact (Array.getElem?_eq_some_iff.1 ho).1
        | n + 1 => simp at h1
      · match i with
        | 0 => omega
        | n + 1 => simp at h1
end
abbrev rowP (p : ByteArray × Int) : List Value := [.string p.1, .int .u32 p.2]
section
variable {H : Type} {enc : TypeId × Value → H} {W : World}
theorem entry_el (n : Nat) (cs : List Value) (x : DataW H × List MemPlace) (hl : cs.length = 2) (h : DataW.trod enc Tryz.prog W 0 (fun _ => true) true n 24 cs = some x) :
    ∃ f : ByteArray × Int, f.1.size ≤ 9223372036854775807 ∧ cs = rowP f := by
  obtain ⟨s, c, hs, e⟩ := entry_elem n cs x hl h
  exact ⟨(s, c), hs, e⟩
end
theorem contractEL {f : FuncId} {fn : Func} {spec : ChangeSpec} (hf : Tryz.prog.funcs[f]? = some fn) (hp : fn.params = #[39]) (hr : fn.resultTypes = #[4]) (hvars : spec.vars = []) (hspec : ∀ (H : Type) (d : DataW H), spec.fn H [d] = { results := [.lit (.bool true)], args := [d] })
    (yes : ∀ (m : Nat) (e : Nat → ByteArray × Int), m ≤ 9223372036854775807 → (∀ j, j < m → (e j).1.size ≤ 9223372036854775807) → ∃ Γ k, GamOk Tryz.prog Γ ∧ GoodQ (execF Tryz.prog Γ noLam k fn [.sl 0 2 0 0 m none] [.row false m 2 (fun j => rowP (e j)) 24] (packK 1)) SaysYes)
    (H : Type) (enc : TypeId × Value → H) (W : World) (base : Nat) (args : Array Value) (ds gs : List (DataW H)) (before : List MemPlace)
    (hval : ∀ (j : Nat) t v, fn.params[j]? = some t → args[j]? = some v → Value.okWide Tryz.prog W .any base t v)
    (hW : DataW.Whole enc Tryz.prog fn.params.toList spec.vars false W args.toList ds gs before) (htab : TabOk (fun k => W.heap.size ≤ k) W) :
    Calls Tryz.prog f args W fun e W' => ∃ v, e = .returned v ∧ spec.post enc Tryz.prog fn false true false false W args v W' := by
  have hW' := hW
  obtain ⟨p, q, hA0, hV, rfl, hfz, hnd⟩ := hW
  have hA : DataW.TrodAll enc Tryz.prog W 0 (fun _ => true) true fn.params.toList args.toList ds p := hA0
  rw [hp] at hA hval
  rw [hvars] at hV
  obtain ⟨v0, vs0, d0, ds0, p0, q0, hargs, rfl, rfl, h0, r0⟩ := trodAll_cons hA
  obtain ⟨rfl, rfl, rfl⟩ := trodAll_nil r0
  obtain rfl : args = #[v0] := by cases args; simp_all
  obtain ⟨rfl, rfl⟩ := trodVars_none hV
  clear hA0 hA r0
  obtain ⟨m, ν, g, hm, hg, hvr, hRH, hdom⟩ := arg_rowG (H := H) ((⟨#[]⟩, 0) : ByteArray × Int) Tryz.underlying39 (by kernel_rfl) (by omega) (hval 0 39 v0 rfl rfl) h0 rowP (fun f => f.1.size ≤ 9223372036854775807) (fun f => ⟨rfl, by simp [rowP, Value.oneCell']⟩) entry_el 24 htab
  obtain ⟨Γ, k, hΓ, hgood⟩ := yes m g hm hg
  have hcall := yes_calls hΓ (n := k) (vals := [v0]) (w := W) hf (Λ := noLam) (H := [.row false m 2 (fun j => rowP (g j)) 24]) (fun c _ => noLam_ok _ _ _) hgood (by simp only [VRs, and_true]; exact hvr) hRH hdom
  refine hcall.mono fun e W' ⟨he, hb⟩ => ?_
  subst he
  have hlt : ∀ x ∈ p0, x.block < W.heap.size := fun x hx => by simpa using hW'.lt x (by simpa using hx)
  refine ⟨_, rfl, post_below (pa := p0) (pv := []) hW' ?_ ?_ ?_ (by simp) hb ?_⟩
  · intro b sp hd
    rw [hr]
    simp only [List.append_nil, hspec]
    exact trodAll_cons_mk (shut_bool Tryz.underlying4 _) trodAll_mk0
  · intro sp hsp
    rw [hp]
    simp only [List.append_nil, hspec]
    refine trodAll_mk1 (WideElems.Trod_stays laidOut (by kernel_rfl) (of_decide_eq_true (by kernel_rfl)) h0 (fun x hx => hb.same (hlt x hx)) fun x hx => hsp x (by simpa using hx))
  · intro sp _
    rw [hvars]
    simp only [List.append_nil, hspec]
    rfl
  · exact ok_one hr rfl (okWide_bool_mk Tryz.underlying4 _)
end Go.Proofs.YtcadinbahmliiaaGreatDoor
