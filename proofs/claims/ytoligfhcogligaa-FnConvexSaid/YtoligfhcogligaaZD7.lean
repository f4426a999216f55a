/- Small words for laws of polygons. No conditions. -/
import Derived.Test.YtoligfhcogligaaZD0
import Derived.Test.YtoligfhcogligaaZD1
import Derived.Test.YtoligfhcogligaaZD2
import Derived.Test.YtoligfhcogligaaZD3
import Derived.Test.YtoligfhcogligaaZD4
import Derived.Test.YtoligfhcogligaaZD5
import Derived.Test.YtoligfhcogligaaZD6
/- Plain algebra: surds make a ring without zero divisors; what is no product of points. No program, no conditions. -/
namespace Go.Proofs.Ytoligfhcogligaa
open Go.RowKit

theorem sq2_zero : ∀ (n : Nat) (x y : Int), x.natAbs ≤ n → x * x = 2 * (y * y) → x = 0 ∧ y = 0 := by
  have zero : ∀ y : Int, 0 = 2 * (y * y) → y = 0 := fun y h => by
    have : y * y = 0 := by omega
    rcases Int.mul_eq_zero.1 this with h | h <;> exact h
  intro n
  induction n with
  | zero =>
    intro x y hx h
    have : x = 0 := by omega
    subst this
    exact ⟨rfl, zero y (by simpa using h)⟩
  | succ n ih =>
    intro x y hx h
    rcases (by omega : x % 2 = 0 ∨ x % 2 = 1) with h1 | h1
    · have hx2 : x = 2 * (x / 2) := by omega
      generalize x / 2 = k at hx2
      subst hx2
      have h2 : y * y = 2 * (k * k) := by grind
      rcases (by omega : y % 2 = 0 ∨ y % 2 = 1) with h3 | h3
      · have hy2 : y = 2 * (y / 2) := by omega
        generalize y / 2 = l at hy2
        subst hy2
        have h4 : k * k = 2 * (l * l) := by grind
        by_cases hk : k = 0
        · subst hk
          have := zero l (by simpa using h4)
          subst this
          exact ⟨rfl, rfl⟩
        · have := ih k l (by omega) h4
          omega
      · exfalso
        have hy : y = 2 * (y / 2) + 1 := by omega
        generalize y / 2 = l at hy
        subst hy
        have : (2 * l + 1) * (2 * l + 1) = 2 * (2 * (l * l) + 2 * l) + 1 := by grind
        omega
    · exfalso
      have hx2 : x = 2 * (x / 2) + 1 := by omega
      generalize x / 2 = k at hx2
      subst hx2
      have : (2 * k + 1) * (2 * k + 1) = 2 * (2 * (k * k) + 2 * k) + 1 := by grind
      omega
theorem root2 {x y : Int} (h : x * x = 2 * (y * y)) : x = 0 ∧ y = 0 := sq2_zero _ x y (Nat.le_refl _) h
theorem l_dom {x y u v : Int} (h1 : x * u + 2 * (y * v) = 0) (h2 : x * v + y * u = 0) : (x = 0 ∧ y = 0) ∨ (u = 0 ∧ v = 0) := by
  have e1 : (x * x - 2 * (y * y)) * u = 0 := by
    have : (x * x - 2 * (y * y)) * u = x * (x * u + 2 * (y * v)) - 2 * y * (x * v + y * u) := by grind
    rw [this, h1, h2]; simp
  have e2 : (x * x - 2 * (y * y)) * v = 0 := by
    have : (x * x - 2 * (y * y)) * v = x * (x * v + y * u) - y * (x * u + 2 * (y * v)) := by grind
    rw [this, h1, h2]; simp
  by_cases hz : x * x - 2 * (y * y) = 0
  · exact .inl (root2 (by omega))
  · rcases Int.mul_eq_zero.1 e1 with h | h
    · exact (hz h).elim
    · rcases Int.mul_eq_zero.1 e2 with h' | h'
      · exact (hz h').elim
      · exact .inr ⟨h, h'⟩
theorem mod3 (x : Int) : x % 3 = 0 ∧ (x * x) % 3 = 0 ∨ x % 3 ≠ 0 ∧ (x * x) % 3 = 1 := by
  rcases (by omega : x % 3 = 0 ∨ x % 3 = 1 ∨ x % 3 = 2) with h | h | h
  · left
    have e : x = 3 * (x / 3) := by omega
    generalize x / 3 = k at e
    subst e
    refine ⟨h, ?_⟩
    have : 3 * k * (3 * k) = 3 * (3 * (k * k)) := by grind
    omega
  · right
    have e : x = 3 * (x / 3) + 1 := by omega
    generalize x / 3 = k at e
    subst e
    refine ⟨by omega, ?_⟩
    have : (3 * k + 1) * (3 * k + 1) = 3 * (3 * (k * k) + 2 * k) + 1 := by grind
    omega
  · right
    have e : x = 3 * (x / 3) + 2 := by omega
    generalize x / 3 = k at e
    subst e
    refine ⟨by omega, ?_⟩
    have : (3 * k + 2) * (3 * k + 2) = 3 * (3 * (k * k) + 4 * k + 1) + 1 := by grind
    omega
theorem prime3 {x y z : Int} (h : x * y = 3 * z) : x % 3 = 0 ∨ y % 3 = 0 := by
  rcases (by omega : x % 3 = 0 ∨ x % 3 = 1 ∨ x % 3 = 2) with h1 | h1 | h1
  · exact .inl h1
  all_goals rcases (by omega : y % 3 = 0 ∨ y % 3 = 1 ∨ y % 3 = 2) with h2 | h2 | h2
  · exact .inr h2
  · exfalso
    have e : x = 3 * (x / 3) + 1 := by omega
    have f : y = 3 * (y / 3) + 1 := by omega
    generalize x / 3 = k at e; generalize y / 3 = l at f
    subst e f
    have : (3 * k + 1) * (3 * l + 1) = 3 * (3 * (k * l) + k + l) + 1 := by grind
    omega
  · exfalso
    have e : x = 3 * (x / 3) + 1 := by omega
    have f : y = 3 * (y / 3) + 2 := by omega
    generalize x / 3 = k at e; generalize y / 3 = l at f
    subst e f
    have : (3 * k + 1) * (3 * l + 2) = 3 * (3 * (k * l) + 2 * k + l) + 2 := by grind
    omega
  · exact .inr h2
  · exfalso
    have e : x = 3 * (x / 3) + 2 := by omega
    have f : y = 3 * (y / 3) + 1 := by omega
    generalize x / 3 = k at e; generalize y / 3 = l at f
    subst e f
    have : (3 * k + 2) * (3 * l + 1) = 3 * (3 * (k * l) + k + 2 * l) + 2 := by grind
    omega
  · exfalso
    have e : x = 3 * (x / 3) + 2 := by omega
    have f : y = 3 * (y / 3) + 2 := by omega
    generalize x / 3 = k at e; generalize y / 3 = l at f
    subst e f
    have : (3 * k + 2) * (3 * l + 2) = 3 * (3 * (k * l) + 2 * k + 2 * l + 1) + 1 := by grind
    omega
theorem k_step {a b c d : Int} (h1 : a * a + 2 * (b * b) = 3 * (c * c + 2 * (d * d))) (h2 : a * b = 3 * (c * d)) : a % 3 = 0 ∧ b % 3 = 0 := by
  have ha := mod3 a
  have hb := mod3 b
  have hp := prime3 h2
  omega
theorem sq_neg (x : Int) : 0 ≤ x * x := by
  rcases Int.le_total 0 x with h | h
  · exact Int.mul_nonneg h h
  · have := Int.mul_nonneg (a := -x) (b := -x) (by omega) (by omega)
    grind
theorem sq_zero {x : Int} (h : x * x = 0) : x = 0 := by rcases Int.mul_eq_zero.1 h with h | h <;> exact h
theorem k_zero : ∀ (n : Nat) (a b c d : Int), a.natAbs + b.natAbs ≤ n → a * a + 2 * (b * b) = 3 * (c * c + 2 * (d * d)) → a * b = 3 * (c * d) → a = 0 ∧ b = 0 ∧ c = 0 ∧ d = 0 := by
  intro n
  have fin : ∀ c d : Int, (0 : Int) = 3 * (c * c + 2 * (d * d)) → c = 0 ∧ d = 0 := fun c d h => by
    have h1 := sq_neg c
    have h2 := sq_neg d
    exact ⟨sq_zero (by omega), sq_zero (by omega)⟩
  induction n with
  | zero =>
    intro a b c d hn h1 h2
    have : a = 0 := by omega
    have : b = 0 := by omega
    subst a b
    have := fin c d (by simpa using h1)
    exact ⟨rfl, rfl, this.1, this.2⟩
  | succ n ih =>
    intro a b c d hn h1 h2
    by_cases hz : a = 0 ∧ b = 0
    · obtain ⟨rfl, rfl⟩ := hz
      have := fin c d (by simpa using h1)
      exact ⟨rfl, rfl, this.1, this.2⟩
    · obtain ⟨ha, hb⟩ := k_step h1 h2
      have ea : a = 3 * (a / 3) := by omega
      have eb : b = 3 * (b / 3) := by omega
      generalize a / 3 = a' at ea
      generalize b / 3 = b' at eb
      subst ea eb
      have g1 : c * c + 2 * (d * d) = 3 * (a' * a' + 2 * (b' * b')) := by grind
      have g2 : c * d = 3 * (a' * b') := by grind
      obtain ⟨hc, hd⟩ := k_step g1 g2
      have ec : c = 3 * (c / 3) := by omega
      have ed : d = 3 * (d / 3) := by omega
      generalize c / 3 = c' at ec
      generalize d / 3 = d' at ed
      subst ec ed
      have := ih a' b' c' d' (by omega) (by grind) (by grind)
      omega
theorem root3 {a b c d : Int} (h1 : a * a + 2 * (b * b) - 3 * (c * c) - 6 * (d * d) = 0) (h2 : 2 * (a * b) - 6 * (c * d) = 0) : a = 0 ∧ b = 0 ∧ c = 0 ∧ d = 0 :=
  k_zero _ a b c d (Nat.le_refl _) (by omega) (by omega)
/-- Surds: a + b r2 + c r3 + d r6. -/
structure Sd where
  a : Int
  b : Int
  c : Int
  d : Int
namespace Sd
theorem ext {x y : Sd} (h0 : x.a = y.a) (h1 : x.b = y.b) (h2 : x.c = y.c) (h3 : x.d = y.d) : x = y := by cases x; cases y; simp_all
instance : Add Sd := ⟨fun s t => ⟨s.a + t.a, s.b + t.b, s.c + t.c, s.d + t.d⟩⟩
instance : Sub Sd := ⟨fun s t => ⟨s.a - t.a, s.b - t.b, s.c - t.c, s.d - t.d⟩⟩
instance : Neg Sd := ⟨fun s => ⟨-s.a, -s.b, -s.c, -s.d⟩⟩
instance : Mul Sd := ⟨fun s t => ⟨s.a * t.a + 2 * (s.b * t.b) + 3 * (s.c * t.c) + 6 * (s.d * t.d), s.a * t.b + s.b * t.a + 3 * (s.c * t.d + s.d * t.c), s.a * t.c + s.c * t.a + 2 * (s.b * t.d + s.d * t.b), s.a * t.d + s.d * t.a + s.b * t.c + s.c * t.b⟩⟩
instance instNC : NatCast Sd := ⟨fun n => ⟨n, 0, 0, 0⟩⟩
instance instOf (n : Nat) : OfNat Sd n := ⟨⟨n, 0, 0, 0⟩⟩
instance : IntCast Sd := ⟨fun n => ⟨n, 0, 0, 0⟩⟩
def pw (s : Sd) : Nat → Sd
  | 0 => 1
  | n + 1 => pw s n * s
instance : HPow Sd Nat Sd := ⟨pw⟩
instance instNS : SMul Nat Sd := ⟨fun n s => (n : Sd) * s⟩
instance instZS : SMul Int Sd := ⟨fun n s => (n : Sd) * s⟩
@[simp] theorem add_a (s t : Sd) : (s + t).a = s.a + t.a := rfl
@[simp] theorem add_b (s t : Sd) : (s + t).b = s.b + t.b := rfl
@[simp] theorem add_c (s t : Sd) : (s + t).c = s.c + t.c := rfl
@[simp] theorem add_d (s t : Sd) : (s + t).d = s.d + t.d := rfl
@[simp] theorem sub_a (s t : Sd) : (s - t).a = s.a - t.a := rfl
@[simp] theorem sub_b (s t : Sd) : (s - t).b = s.b - t.b := rfl
@[simp] theorem sub_c (s t : Sd) : (s - t).c = s.c - t.c := rfl
@[simp] theorem sub_d (s t : Sd) : (s - t).d = s.d - t.d := rfl
@[simp] theorem neg_a (s : Sd) : (-s).a = -s.a := rfl
@[simp] theorem neg_b (s : Sd) : (-s).b = -s.b := rfl
@[simp] theorem neg_c (s : Sd) : (-s).c = -s.c := rfl
@[simp] theorem neg_d (s : Sd) : (-s).d = -s.d := rfl
@[simp] theorem mul_a (s t : Sd) : (s * t).a = s.a * t.a + 2 * (s.b * t.b) + 3 * (s.c * t.c) + 6 * (s.d * t.d) := rfl
@[simp] theorem mul_b (s t : Sd) : (s * t).b = s.a * t.b + s.b * t.a + 3 * (s.c * t.d + s.d * t.c) := rfl
@[simp] theorem mul_c (s t : Sd) : (s * t).c = s.a * t.c + s.c * t.a + 2 * (s.b * t.d + s.d * t.b) := rfl
@[simp] theorem mul_d (s t : Sd) : (s * t).d = s.a * t.d + s.d * t.a + s.b * t.c + s.c * t.b := rfl
@[simp] theorem of_a (n : Nat) : (OfNat.ofNat n : Sd).a = n := rfl
@[simp] theorem of_b (n : Nat) : (OfNat.ofNat n : Sd).b = 0 := rfl
@[simp] theorem of_c (n : Nat) : (OfNat.ofNat n : Sd).c = 0 := rfl
@[simp] theorem of_d (n : Nat) : (OfNat.ofNat n : Sd).d = 0 := rfl
@[simp] theorem z_a : (0 : Sd).a = 0 := rfl
@[simp] theorem z_b : (0 : Sd).b = 0 := rfl
@[simp] theorem z_c : (0 : Sd).c = 0 := rfl
@[simp] theorem z_d : (0 : Sd).d = 0 := rfl
@[simp] theorem o_a : (1 : Sd).a = 1 := rfl
@[simp] theorem o_b : (1 : Sd).b = 0 := rfl
@[simp] theorem o_c : (1 : Sd).c = 0 := rfl
@[simp] theorem o_d : (1 : Sd).d = 0 := rfl
@[simp] theorem f_a : (4 : Sd).a = 4 := rfl
@[simp] theorem f_b : (4 : Sd).b = 0 := rfl
@[simp] theorem f_c : (4 : Sd).c = 0 := rfl
@[simp] theorem f_d : (4 : Sd).d = 0 := rfl
@[simp] theorem nc_a (n : Nat) : (n : Sd).a = n := rfl
@[simp] theorem nc_b (n : Nat) : (n : Sd).b = 0 := rfl
@[simp] theorem nc_c (n : Nat) : (n : Sd).c = 0 := rfl
@[simp] theorem nc_d (n : Nat) : (n : Sd).d = 0 := rfl
@[simp] theorem ic_a (n : Int) : (n : Sd).a = n := rfl
@[simp] theorem ic_b (n : Int) : (n : Sd).b = 0 := rfl
@[simp] theorem ic_c (n : Int) : (n : Sd).c = 0 := rfl
@[simp] theorem ic_d (n : Int) : (n : Sd).d = 0 := rfl
theorem zs (i : Int) (s : Sd) : i • s = (i : Sd) * s := rfl
/-- The class of a ring that is there, at another type. -/
abbrev ringAt {c : Type → Type} (_ : c Dyadic) (α : Type) : Type := c α
instance : ringAt Dyadic.instCommRing Sd where
  natCast := instNC
  ofNat := instOf
  nsmul := instNS
  zsmul := instZS
  npow := inferInstance
  add_zero s := by apply ext <;> simp
  add_comm s t := by apply ext <;> simp <;> grind
  add_assoc s t u := by apply ext <;> simp <;> grind
  mul_assoc s t u := by apply ext <;> simp <;> grind
  mul_one s := by apply ext <;> simp
  one_mul s := by apply ext <;> simp
  left_distrib s t u := by apply ext <;> simp <;> grind
  right_distrib s t u := by apply ext <;> simp <;> grind
  zero_mul s := by apply ext <;> simp
  mul_zero s := by apply ext <;> simp
  pow_zero s := rfl
  pow_succ s n := rfl
  ofNat_succ n := by apply ext <;> simp
  neg_add_cancel s := by apply ext <;> simp <;> grind
  sub_eq_add_neg s t := by apply ext <;> simp <;> grind
  neg_zsmul i s := by simp only [zs]; apply ext <;> simp <;> grind
  zsmul_natCast_eq_nsmul n s := by apply ext <;> rfl
  intCast_neg i := by apply ext <;> simp
  mul_comm s t := by apply ext <;> simp <;> grind
theorem dom {s t : Sd} (h : s * t = 0) : s = 0 ∨ t = 0 := by
  have h1 : (s * t).a = 0 := by rw [h]; rfl
  have h2 : (s * t).b = 0 := by rw [h]; rfl
  have h3 : (s * t).c = 0 := by rw [h]; rfl
  have h4 : (s * t).d = 0 := by rw [h]; rfl
  obtain ⟨A, B, C, D⟩ := s
  obtain ⟨E, F, G, H⟩ := t
  simp at h1 h2 h3 h4
  have e1 : (A * A + 2 * (B * B) - 3 * (C * C) - 6 * (D * D)) * E + 2 * ((2 * (A * B) - 6 * (C * D)) * F) = 0 := by grind
  have e2 : (A * A + 2 * (B * B) - 3 * (C * C) - 6 * (D * D)) * F + (2 * (A * B) - 6 * (C * D)) * E = 0 := by grind
  have e3 : (A * A + 2 * (B * B) - 3 * (C * C) - 6 * (D * D)) * G + 2 * ((2 * (A * B) - 6 * (C * D)) * H) = 0 := by grind
  have e4 : (A * A + 2 * (B * B) - 3 * (C * C) - 6 * (D * D)) * H + (2 * (A * B) - 6 * (C * D)) * G = 0 := by grind
  rcases l_dom e1 e2 with ⟨g1, g2⟩ | ⟨rfl, rfl⟩
  · obtain ⟨rfl, rfl, rfl, rfl⟩ := root3 g1 g2
    exact .inl rfl
  · rcases l_dom e3 e4 with ⟨g1, g2⟩ | ⟨rfl, rfl⟩
    · obtain ⟨rfl, rfl, rfl, rfl⟩ := root3 g1 g2
      exact .inl rfl
    · exact .inr rfl
theorem squares {u v : Sd} (h : u * u + v * v = 0) : u = 0 ∧ v = 0 := by
  have h1 : (u * u + v * v).a = 0 := by rw [h]; rfl
  obtain ⟨A, B, C, D⟩ := u
  obtain ⟨E, F, G, H⟩ := v
  simp at h1
  have := sq_neg A; have := sq_neg B; have := sq_neg C; have := sq_neg D
  have := sq_neg E; have := sq_neg F; have := sq_neg G; have := sq_neg H
  have a1 : A = 0 := sq_zero (by omega)
  have a2 : B = 0 := sq_zero (by omega)
  have a3 : C = 0 := sq_zero (by omega)
  have a4 : D = 0 := sq_zero (by omega)
  have a5 : E = 0 := sq_zero (by omega)
  have a6 : F = 0 := sq_zero (by omega)
  have a7 : G = 0 := sq_zero (by omega)
  have a8 : H = 0 := sq_zero (by omega)
  subst a1 a2 a3 a4 a5 a6 a7 a8
  exact ⟨rfl, rfl⟩
theorem plane {s t u v : Sd} (h1 : s * u + t * v = 0) (h2 : s * v - t * u = 0) : (u = 0 ∧ v = 0) ∨ (s = 0 ∧ t = 0) := by
  have e1 : s * (u * u + v * v) = 0 := by grind
  have e2 : t * (u * u + v * v) = 0 := by grind
  rcases dom e1 with h | h
  · rcases dom e2 with h' | h'
    · exact .inr ⟨h, h'⟩
    · exact .inl (squares h')
  · exact .inl (squares h)
end Sd

def RE (a : Nat → Int) : Sd := ⟨reZ a 0, reZ a 1, reZ a 2, reZ a 3⟩
def IM (a : Nat → Int) : Sd := ⟨imZ a 0, imZ a 1, imZ a 2, imZ a 3⟩
theorem re_cross (a b : Nat → Int) : RE a * RE b + IM a * IM b = 4 * RE (mulZ (mirZ a) b) := by
  apply Sd.ext <;> simp [RE, IM] <;> simp only [reZ, imZ, mulZ, mirZ, convF] <;> grind
theorem im_cross (a b : Nat → Int) : RE a * IM b - IM a * RE b = 4 * IM (mulZ (mirZ a) b) := by
  apply Sd.ext <;> simp [RE, IM] <;> simp only [reZ, imZ, mulZ, mirZ, convF] <;> grind
theorem im_anti (a b : Nat → Int) : IM (mulZ (mirZ b) a) = - IM (mulZ (mirZ a) b) := by
  apply Sd.ext <;> simp [IM] <;> simp only [imZ, mulZ, mirZ, convF] <;> grind
theorem pt_zero {a : Nat → Int} (h : RE a = 0) (h' : IM a = 0) : ∀ k, k < 8 → a k = 0 := by
  have e0 : (RE a).a = 0 := by rw [h]; rfl
  have e1 : (RE a).b = 0 := by rw [h]; rfl
  have e2 : (RE a).c = 0 := by rw [h]; rfl
  have e3 : (RE a).d = 0 := by rw [h]; rfl
  have f0 : (IM a).a = 0 := by rw [h']; rfl
  have f1 : (IM a).b = 0 := by rw [h']; rfl
  have f2 : (IM a).c = 0 := by rw [h']; rfl
  have f3 : (IM a).d = 0 := by rw [h']; rfl
  simp only [RE, IM, reZ, imZ] at e0 e1 e2 e3 f0 f1 f2 f3
  intro k hk
  rcases (by omega : k = 0 ∨ k = 1 ∨ k = 2 ∨ k = 3 ∨ k = 4 ∨ k = 5 ∨ k = 6 ∨ k = 7) with rfl | rfl | rfl | rfl | rfl | rfl | rfl | rfl <;> omega
theorem cross_zero {a b : Nat → Int} (h1 : RE (mulZ (mirZ a) b) = 0) (h2 : IM (mulZ (mirZ a) b) = 0) : (∀ k, k < 8 → b k = 0) ∨ (∀ k, k < 8 → a k = 0) := by
  have g1 := re_cross a b
  have g2 := im_cross a b
  rw [h1] at g1
  rw [h2] at g2
  have z : (4 * 0 : Sd) = 0 := by grind
  rw [z] at g1 g2
  rcases Sd.plane g1 g2 with ⟨x, y⟩ | ⟨x, y⟩
  · exact .inl (pt_zero x y)
  · exact .inr (pt_zero x y)

end Go.Proofs.Ytoligfhcogligaa

/- Plain algebra: crosses of small steps are exact; when they are nothing. No program, no conditions. -/
namespace Go.Proofs.Ytoligfhcogligaa
open Go.RowKit

theorem w4_at (f : Nat → Int) : ∀ k, k < 4 → w4 f k = f k := fun k hk => by
  rcases (by omega : k = 0 ∨ k = 1 ∨ k = 2 ∨ k = 3) with rfl | rfl | rfl | rfl <;> rfl
/-- conj(p) q, for small steps: the machine's product is the true one. -/
theorem prod_exact {p q : Nat → Int} (hp : bd8 200 p) (hq : bd8 200 q) : (∀ k, k < 8 → mulF (mirF (w8 p)) (w8 q) k = mulZ (mirZ p) q k) ∧ bd8 1920000 (mulZ (mirZ p) q) := by
  have h1 : ∀ k, k < 8 → mirF (w8 p) k = mirZ p k := fun k hk => by
    show W (mirZ (w8 p) k) = _
    rw [mir_congr (w8_at p)]
    exact W8 (mir_bd hp) (by omega) k hk
  have hb : bd8 (24 * (2 * 200 * 200)) (mulZ (mirZ p) q) := mul_bd8 (mir_bd hp) hq
  refine ⟨fun k hk => ?_, fun k hk => ?_⟩
  · show W (mulZ (mirF (w8 p)) (w8 q) k) = _
    rw [mul_congr h1 (w8_at q)]
    exact W8 hb (by omega) k hk
  · have := hb k hk
    omega
theorem cross_exact {p q : Nat → Int} (hp : bd8 200 p) (hq : bd8 200 q) : (∀ k, k < 4 → crossW p q k = imZ (mulZ (mirZ p) q) k) ∧ (∀ k, k < 4 → reF (mulF (mirF (w8 p)) (w8 q)) k = reZ (mulZ (mirZ p) q) k) ∧ bd4 11520000 (imZ (mulZ (mirZ p) q)) ∧ bd4 11520000 (reZ (mulZ (mirZ p) q)) := by
  obtain ⟨h1, h2⟩ := prod_exact hp hq
  have hi := im_bd h2
  have hr := re_bd h2
  refine ⟨fun k hk => ?_, fun k hk => ?_, fun k hk => by have := hi k hk; omega, fun k hk => by have := hr k hk; omega⟩
  · show W (imZ (mulF (mirF (w8 p)) (w8 q)) k) = _
    rw [im_congr h1]
    exact W4 hi (by omega) k hk
  · show W (reZ (mulF (mirF (w8 p)) (w8 q)) k) = _
    rw [re_congr h1]
    exact W4 hr (by omega) k hk
theorem sq_le {x B : Int} (h1 : -B ≤ x) (h2 : x ≤ B) : 0 ≤ x * x ∧ x * x ≤ B * B := ⟨sq_neg x, (mul_bd h1 h2 h1 h2).2⟩
/-- No bits are lost. -/
theorem xq_exact {s : Nat → Int} (h : bd4 11520000 s) : xq s = s 0 * s 0 + 2 * (s 1 * s 1) - 3 * (s 2 * s 2) - 6 * (s 3 * s 3) ∧ yq s = 2 * (s 0 * s 1) - 6 * (s 2 * s 3) := by
  have h0 := h 0 (by omega); have h1 := h 1 (by omega); have h2 := h 2 (by omega); have h3 := h 3 (by omega)
  have q0 := sq_le h0.1 h0.2; have q1 := sq_le h1.1 h1.2; have q2 := sq_le h2.1 h2.2; have q3 := sq_le h3.1 h3.2
  have p01 := mul_bd h0.1 h0.2 h1.1 h1.2
  have p23 := mul_bd h2.1 h2.2 h3.1 h3.2
  have e1 : W (2 * s 1) = 2 * s 1 := w64_in (by omega) (by omega)
  have e2 : W (3 * s 2) = 3 * s 2 := w64_in (by omega) (by omega)
  have e3 : W (6 * s 3) = 6 * s 3 := w64_in (by omega) (by omega)
  have e4 : W (2 * s 0) = 2 * s 0 := w64_in (by omega) (by omega)
  have e5 : W (6 * s 2) = 6 * s 2 := w64_in (by omega) (by omega)
  have g1 : 2 * s 1 * s 1 = 2 * (s 1 * s 1) := by grind
  have g2 : 3 * s 2 * s 2 = 3 * (s 2 * s 2) := by grind
  have g3 : 6 * s 3 * s 3 = 6 * (s 3 * s 3) := by grind
  have g4 : 2 * s 0 * s 1 = 2 * (s 0 * s 1) := by grind
  have g5 : 6 * s 2 * s 3 = 6 * (s 2 * s 3) := by grind
  constructor
  · show W (W (W (W (s 0 * s 0) + W (W (2 * s 1) * s 1)) - W (W (3 * s 2) * s 2)) - W (W (6 * s 3) * s 3)) = _
    rw [e1, e2, e3, g1, g2, g3, w64_in (x := s 0 * s 0) (by omega) (by omega), w64_in (x := 2 * (s 1 * s 1)) (by omega) (by omega), w64_in (x := 3 * (s 2 * s 2)) (by omega) (by omega), w64_in (x := 6 * (s 3 * s 3)) (by omega) (by omega),
      w64_in (x := s 0 * s 0 + 2 * (s 1 * s 1)) (by omega) (by omega), w64_in (x := s 0 * s 0 + 2 * (s 1 * s 1) - 3 * (s 2 * s 2)) (by omega) (by omega), w64_in (by omega) (by omega)]
  · show W (W (W (2 * s 0) * s 1) - W (W (6 * s 2) * s 3)) = _
    rw [e4, e5, g4, g5, w64_in (x := 2 * (s 0 * s 1)) (by omega) (by omega), w64_in (x := 6 * (s 2 * s 3)) (by omega) (by omega), w64_in (by omega) (by omega)]
theorem sg2_zero {x y : Int} : sg2 x y = 0 ↔ x = 0 ∧ y = 0 := by
  unfold sg2
  repeat' split
  all_goals omega
/-- A surd of sign 0 is nothing. -/
theorem sgn4_zero {s : Nat → Int} (h : bd4 11520000 s) : sgn4 s = 0 ↔ s 0 = 0 ∧ s 1 = 0 ∧ s 2 = 0 ∧ s 3 = 0 := by
  obtain ⟨ex, ey⟩ := xq_exact h
  have z1 := @sg2_zero (s 0) (s 1)
  have z2 := @sg2_zero (s 2) (s 3)
  have z3 := @sg2_zero (xq s) (yq s)
  have r1 := sg2_range (s 0) (s 1)
  have r2 := sg2_range (s 2) (s 3)
  have r3 := sg2_range (xq s) (yq s)
  constructor
  · intro h0
    unfold sgn4 at h0
    split at h0
    · rename_i hc
      have h1 := z1.1 h0
      have h2 : sg2 (s 2) (s 3) = 0 := by rcases hc with hc | hc <;> omega
      have h2 := z2.1 h2
      exact ⟨h1.1, h1.2, h2.1, h2.2⟩
    · rename_i hc
      split at h0
      · exact (hc (.inr h0)).elim
      · rename_i hc2
        have h3 : sg2 (xq s) (yq s) = 0 := by
          rcases Int.mul_eq_zero.1 h0 with h | h
          · exact (hc2 h).elim
          · exact h
        have h3 := z3.1 h3
        rw [ex, ey] at h3
        exact root3 h3.1 h3.2
  · rintro ⟨h0, h1, h2, h3⟩
    have a1 := z1.2 ⟨h0, h1⟩
    have a2 := z2.2 ⟨h2, h3⟩
    unfold sgn4
    rw [a1, a2]
    rfl
theorem sgn4_w4 (s : Nat → Int) : sgn4 (w4 s) = sgn4 s := rfl
theorem sgn4_congr {s s' : Nat → Int} (h : ∀ k, k < 4 → s k = s' k) : sgn4 s = sgn4 s' := by
  have h0 := h 0 (by omega); have h1 := h 1 (by omega); have h2 := h 2 (by omega); have h3 := h 3 (by omega)
  unfold sgn4
  simp only [xq, yq, h0, h1, h2, h3]
/-- The bend and what is gone along are both nothing: one of the steps is. -/
theorem no_cross {p q : Nat → Int} (hp : bd8 200 p) (hq : bd8 200 q) (h1 : sgn4 (w4 (crossW p q)) = 0) (h2 : sgn4 (w4 (reF (mulF (mirF (w8 p)) (w8 q)))) = 0) : (∀ k, k < 8 → q k = 0) ∨ (∀ k, k < 8 → p k = 0) := by
  obtain ⟨e1, e2, b1, b2⟩ := cross_exact hp hq
  rw [sgn4_w4, sgn4_congr e1, sgn4_zero b1] at h1
  rw [sgn4_w4, sgn4_congr e2, sgn4_zero b2] at h2
  exact cross_zero (Sd.ext h2.1 h2.2.1 h2.2.2.1 h2.2.2.2) (Sd.ext h1.1 h1.2.1 h1.2.2.1 h1.2.2.2)
theorem cross_none {p q : Nat → Int} (hp : bd8 200 p) (hq : bd8 200 q) (h : ∀ k, k < 8 → q k = 0) : sgn4 (w4 (crossW p q)) = 0 ∧ sgn4 (w4 (reF (mulF (mirF (w8 p)) (w8 q)))) = 0 := by
  obtain ⟨e1, e2, b1, b2⟩ := cross_exact hp hq
  have hz : ∀ k, mulZ (mirZ p) q k = mulZ (mirZ p) zeroF k := mul_congr (fun _ _ => rfl) h
  have hz0 : ∀ k, mulZ (mirZ p) zeroF k = 0 := by
    intro k
    unfold mulZ
    split <;> simp [convF, zeroF]
  have hz1 : ∀ k, k < 8 → mulZ (mirZ p) q k = zeroF k := fun k _ => (hz k).trans (hz0 k)
  constructor
  · rw [sgn4_w4, sgn4_congr e1, sgn4_congr (fun k _ => im_congr hz1 k)]
    rfl
  · rw [sgn4_w4, sgn4_congr e2, sgn4_congr (fun k _ => re_congr hz1 k)]
    rfl
end Go.Proofs.Ytoligfhcogligaa

/- PolyTurns of both: what they return. Conditions: a list of points. -/
namespace Go.Proofs.Ytoligfhcogligaa
open Go.RowKit
set_option maxRecDepth 100000

theorem fAl_along : fAl (fun p q => reF (mulF (mirF p) q)) = f_along := by funext vs; unfold fAl f_along; rfl
theorem fAl_cross : fAl (fun p q => imF (mulF (mirF p) q)) = f_l8Cross := by funext vs; unfold fAl f_l8Cross; rfl
theorem fMi_mir : fMi mirF = f_l2Mirror := by funext vs; unfold fMi f_l2Mirror; rfl
theorem fTi_mul : fTi mulF = f_l2Times := by funext vs; unfold fTi f_l2Times; rfl
theorem fRe_re : fRe reF = f_l3Re := by funext vs; unfold fRe f_l3Re; rfl
theorem fRe_re' : fRe reF = f_re := by funext vs; unfold fRe f_re; rfl
theorem fRe_im : fRe imF = f_l3Im := by funext vs; unfold fRe f_l3Im; rfl
theorem fRe_im' : fRe imF = f_im := by funext vs; unfold fRe f_im; rfl
theorem fSn_sgn : fSn sgn4 i64B = f_sgn := by funext vs; unfold fSn f_sgn; rfl

def gmUI (im re : (Nat → Int) → Nat → Int) (sg : (Nat → Int) → Int) (ob : Int → Bool) : Gam := ext (ext (ext g0 73 (specV (fRe im))) 94 (specV (fRe re))) 51 (specV (fSn sg ob))
def gmUS (im re : (Nat → Int) → Nat → Int) (sg : (Nat → Int) → Int) (ob : Int → Bool) : Gam := ext (ext (ext g0 75 (specV (fRe im))) 53 (specV (fRe re))) 44 (specV (fSn sg ob))
theorem gmUI_ok : GamOk Try.prog (gmUI imF reF sgn4 i64B) := ext_ok (ext_ok (ext_ok g0_ok (fRe_im' ▸ ok_im)) (fRe_re' ▸ ok_re)) (fSn_sgn ▸ ok_sign)
theorem gmUS_ok : GamOk Try.prog (gmUS imF reF sgn4 i64B) := ext_ok (ext_ok (ext_ok g0_ok (fRe_im ▸ ok_l3Im)) (fRe_re ▸ ok_l3Re)) (fSn_sgn ▸ ok_l3Sign)

theorem treeUI (im re : (Nat → Int) → Nat → Int) (sg : (Nat → Int) → Int) (ob : Int → Bool) (a : Nat → Int) : execF Try.prog (gmUI im re sg ob) noLam 100 Try.f52 ([cyv a].map .v) [] valK
    = needs [ob (im (w8 a) (0 : Nat)), ob (im (w8 a) (1 : Nat)), ob (im (w8 a) (2 : Nat)), ob (im (w8 a) (3 : Nat))] (bif sg (w4 (im (w8 a))) != (0 : Int) then Res.out Ex.ret [AV.v (Value.bool (decide (sg (w4 (im (w8 a))) > (0 : Int))))] [] else needs [ob (re (w8 a) (0 : Nat)), ob (re (w8 a) (1 : Nat)), ob (re (w8 a) (2 : Nat)), ob (re (w8 a) (3 : Nat))] (Res.out Ex.ret [AV.v (Value.bool (decide (sg (w4 (re (w8 a))) > (0 : Int))))] [])) := by kernel_rfl

theorem treeUS (im re : (Nat → Int) → Nat → Int) (sg : (Nat → Int) → Int) (ob : Int → Bool) (a : Nat → Int) : execF Try.prog (gmUS im re sg ob) noLam 100 Try.f56 ([cyv a].map .v) [] valK
    = needs [ob (im (w8 a) (0 : Nat)), ob (im (w8 a) (1 : Nat)), ob (im (w8 a) (2 : Nat)), ob (im (w8 a) (3 : Nat))] (bif decide (sg (w4 (im (w8 a))) > (0 : Int)) then Res.out Ex.ret [AV.v (Value.bool true)] [] else bif sg (w4 (im (w8 a))) == (0 : Int) then needs [ob (re (w8 a) (0 : Nat)), ob (re (w8 a) (1 : Nat)), ob (re (w8 a) (2 : Nat)), ob (re (w8 a) (3 : Nat))] (Res.out Ex.ret [AV.v (Value.bool (decide (sg (w4 (re (w8 a))) > (0 : Int))))] []) else Res.out Ex.ret [AV.v (Value.bool false)] []) := by kernel_rfl

/-- Above the real line, or along it to the right. -/
def upF (a : Nat → Int) : Bool := bif sgn4 (w4 (imF a)) != 0 then decide (sgn4 (w4 (imF a)) > 0) else decide (sgn4 (w4 (reF a)) > 0)
theorem obW (f : Nat → Int) : obls [i64B (W (f 0)), i64B (W (f 1)), i64B (W (f 2)), i64B (W (f 3))] = true := by simp only [i64B_W, ob_cons, ob_nil, and_self]
theorem ok_upper : SpecOk Try.prog 52 (specV (fUp upF)) := by
  refine mkV (n := 100) gmUI_ok Try.func52 rfl fun vs v ob hF ho => ?_
  unfold fUp at hF
  split at hF
  · rename_i a0 a1 a2 a3 a4 a5 a6 a7
    cases hF
    show Good (execF Try.prog (gmUI imF reF sgn4 i64B) noLam 100 Try.f52 ([cyv (v8 a0 a1 a2 a3 a4 a5 a6 a7)].map .v) [] valK) _
    rw [treeUI, show w8 (v8 a0 a1 a2 a3 a4 a5 a6 a7) = v8 a0 a1 a2 a3 a4 a5 a6 a7 from rfl]
    refine good_needsV (obW _) ?_
    unfold upF
    cases (sgn4 (w4 (imF (v8 a0 a1 a2 a3 a4 a5 a6 a7))) != 0) with
    | true => exact one rfl
    | false => exact good_needsV (obW _) (one rfl)
  · cases hF
theorem ok_l8Upper : SpecOk Try.prog 56 (specV (fUp upF)) := by
  refine mkV (n := 100) gmUS_ok Try.func56 rfl fun vs v ob hF ho => ?_
  unfold fUp at hF
  split at hF
  · rename_i a0 a1 a2 a3 a4 a5 a6 a7
    cases hF
    show Good (execF Try.prog (gmUS imF reF sgn4 i64B) noLam 100 Try.f56 ([cyv (v8 a0 a1 a2 a3 a4 a5 a6 a7)].map .v) [] valK) _
    rw [treeUS, show w8 (v8 a0 a1 a2 a3 a4 a5 a6 a7) = v8 a0 a1 a2 a3 a4 a5 a6 a7 from rfl]
    refine good_needsV (obW _) ?_
    unfold upF
    have hr := sgn4_range (w4 (imF (v8 a0 a1 a2 a3 a4 a5 a6 a7)))
    show Good (bif decide (sgn4 (w4 (imF (v8 a0 a1 a2 a3 a4 a5 a6 a7))) > 0) then _ else bif sgn4 (w4 (imF (v8 a0 a1 a2 a3 a4 a5 a6 a7))) == 0 then _ else _) (.bool (bif sgn4 (w4 (imF (v8 a0 a1 a2 a3 a4 a5 a6 a7))) != 0 then decide (sgn4 (w4 (imF (v8 a0 a1 a2 a3 a4 a5 a6 a7))) > 0) else _))
    generalize sgn4 (w4 (imF (v8 a0 a1 a2 a3 a4 a5 a6 a7))) = s at *
    rcases hr with rfl | rfl | rfl
    · exact one rfl
    · exact good_needsV (obW _) (one rfl)
    · exact one rfl
  · cases hF

abbrev alF (p q : Nat → Int) : Nat → Int := reF (mulF (mirF p) q)
abbrev crF (p q : Nat → Int) : Nat → Int := imF (mulF (mirF p) q)
theorem gmTI_okt : GamOk Try.prog (gmTIt upF alF sgn4 i64B) := ext_ok (ext_ok (ext_ok g0_ok ok_upper) (fAl_along ▸ ok_along)) (fSn_sgn ▸ ok_sign)
theorem gmTS_ok : GamOk Try.prog (gmTS upF crF mirF reF mulF sgn4 i64B) := ext_ok (ext_ok (ext_ok (ext_ok (ext_ok (ext_ok g0_ok ok_l8Upper) (fAl_cross ▸ ok_l8Cross)) (fMi_mir ▸ ok_l2Mirror)) (fTi_mul ▸ ok_l2Times)) (fRe_re ▸ ok_l3Re)) (fSn_sgn ▸ ok_l3Sign)

abbrev vTI (m : Nat) : List AV := [.own 1 m, .v (i64 0), .own 2 m, .v (i64 m), .v (i64 (0 : Nat))]
abbrev vTS (m : Nat) : List AV := [.own 1 m, .v (i64 m), .v (i64 0), .v (i64 (0 : Nat))]
noncomputable abbrev lamTIt (m : Nat) (a bs : Nat → Nat → Int) (bf : Nat → Int) (bad : Nat → Bool) (con : Nat → Int) : Nat → Option Sum := oneL 0 (atS 82 (lvTIt .normal) 1 (vTI m) [.row false m 8 (rowC a) 40, .row true m 8 (rowC bs) 40, .row true m 1 (rowI bf) 3] (outT 5 bad con m [.row false m 8 (rowC a) 40]))
noncomputable abbrev lamTS (m : Nat) (a bs : Nat → Nat → Int) (bad : Nat → Bool) (con : Nat → Int) : Nat → Option Sum := oneL 0 (atS 82 (lvTS .normal) 1 (vTS m) [.row false m 8 (rowC a) 40, .row true m 8 (rowC bs) 40] (outT 6 bad con m [.row false m 8 (rowC a) 40]))

theorem treeFTI (m : Nat) (a bs : Nat → Nat → Int) (bf : Nat → Int) (bad : Nat → Bool) (con : Nat → Int) : execF Try.prog gm_yb (lamTIt m a bs bf bad con) 100 Try.f17 [.sl 0 8 0 0 m none] [.row false m 8 (rowC a) 40] (packK 1)
    = needs [Nat.ble ((0 : Nat) + m) m, allC m fun q ↦ rowC a ((0 : Nat) + q), decide (m ≤ (274877906944 : Nat)), f_valid (itC fun q ↦ rowC a ((0 : Nat) + q)) m == true, Nat.ble ((0 : Nat) + m) m, allC m fun q ↦ rowC a ((0 : Nat) + q), decide ((0 : Nat) < m), decide (m ≤ (274877906944 : Nat)), Nat.ble ((0 : Nat) + m) m, allC m fun q ↦ rowC a ((0 : Nat) + q), decide ((0 : Nat) < m), decide (m ≤ (274877906944 : Nat)), chk ([AV.own (1 : Nat) m, AV.v (Value.int IntKind.i64 (0 : Int)), AV.own (2 : Nat) m, AV.v (Value.int IntKind.i64 (↑m : Int)), AV.v (Value.int IntKind.i64 (0 : Int))] = vTI m ∧ Hsim [AB.row false m (8 : Nat) (rowC a) (40 : TypeId), AB.row true m (8 : Nat) (rowC (stepsF (itC fun q ↦ rowC a ((0 : Nat) + q)) m)) (40 : TypeId), AB.row true m (1 : Nat) (rowI (bendsF (stepsF (itC fun q ↦ rowC a ((0 : Nat) + q)) m) m)) (3 : TypeId)] [AB.row false m (8 : Nat) (rowC a) (40 : TypeId), AB.row true m (8 : Nat) (rowC bs) (40 : TypeId), AB.row true m (1 : Nat) (rowI bf) (3 : TypeId)])] (bif noneTo bad m then Res.out Ex.ret [AV.tup [AV.v (Value.int IntKind.i64 (sumTo con m)), AV.v (Value.bool true)]] [AB.row false m (8 : Nat) (rowC a) (40 : TypeId)] else Res.out Ex.ret [AV.tup [AV.v (Value.int IntKind.i64 (0 : Int)), AV.v (Value.bool false)]] [AB.row false m (8 : Nat) (rowC a) (40 : TypeId)]) := by kernel_rfl

theorem treeFTS (m : Nat) (a bs : Nat → Nat → Int) (bad : Nat → Bool) (con : Nat → Int) : execF Try.prog gm_y (lamTS m a bs bad con) 100 Try.f18 [.sl 0 8 0 0 m none] [.row false m 8 (rowC a) 40] (packK 1)
    = needs [Nat.ble ((0 : Nat) + m) m, allC m fun q ↦ rowC a ((0 : Nat) + q), decide (m ≤ (274877906944 : Nat)), f_valid (itC fun q ↦ rowC a ((0 : Nat) + q)) m == true, Nat.ble ((0 : Nat) + m) m, allC m fun q ↦ rowC a ((0 : Nat) + q), decide ((0 : Nat) < m), decide (m ≤ (274877906944 : Nat)), chk ([AV.own (1 : Nat) m, AV.v (Value.int IntKind.i64 (↑m : Int)), AV.v (Value.int IntKind.i64 (0 : Int)), AV.v (Value.int IntKind.i64 (0 : Int))] = vTS m ∧ Hsim [AB.row false m (8 : Nat) (rowC a) (40 : TypeId), AB.row true m (8 : Nat) (rowC (stepsF (itC fun q ↦ rowC a ((0 : Nat) + q)) m)) (40 : TypeId)] [AB.row false m (8 : Nat) (rowC a) (40 : TypeId), AB.row true m (8 : Nat) (rowC bs) (40 : TypeId)])] (bif noneTo bad m then Res.out Ex.ret [AV.tup [AV.v (Value.int IntKind.i64 (sumTo con m)), AV.v (Value.bool true)]] [AB.row false m (8 : Nat) (rowC a) (40 : TypeId)] else Res.out Ex.ret [AV.tup [AV.v (Value.int IntKind.i64 (0 : Int)), AV.v (Value.bool false)]] [AB.row false m (8 : Nat) (rowC a) (40 : TypeId)]) := by kernel_rfl

theorem treeNTI (m : Nat) (a : Nat → Nat → Int) : execF Try.prog gm_n noLam 100 Try.f17 [.sl 0 8 0 0 m none] [.row false m 8 (rowC a) 40] (packK 1)
    = needs [Nat.ble ((0 : Nat) + m) m, allC m fun q ↦ rowC a ((0 : Nat) + q), decide (m ≤ (274877906944 : Nat)), f_valid (itC fun q ↦ rowC a ((0 : Nat) + q)) m == false] (Res.out Ex.ret [AV.tup [AV.v (Value.int IntKind.i64 (0 : Int)), AV.v (Value.bool false)]] [AB.row false m (8 : Nat) (rowC a) (40 : TypeId)]) := by kernel_rfl

theorem treeNTS (m : Nat) (a : Nat → Nat → Int) : execF Try.prog gm_n noLam 100 Try.f18 [.sl 0 8 0 0 m none] [.row false m 8 (rowC a) 40] (packK 1)
    = needs [Nat.ble ((0 : Nat) + m) m, allC m fun q ↦ rowC a ((0 : Nat) + q), decide (m ≤ (274877906944 : Nat)), f_valid (itC fun q ↦ rowC a ((0 : Nat) + q)) m == false] (Res.out Ex.ret [AV.tup [AV.v (Value.int IntKind.i64 (0 : Int)), AV.v (Value.bool false)]] [AB.row false m (8 : Nat) (rowC a) (40 : TypeId)]) := by kernel_rfl

abbrev alS (p q : Nat → Int) : Nat → Int := reF (w8 (mulF (w8 (mirF p)) q))
theorem alS_eq (p q : Nat → Int) : sgn4 (w4 (alS (w8 p) (w8 q))) = sgn4 (w4 (reF (mulF (mirF (w8 p)) (w8 q)))) := by
  rw [sgn4_w4, sgn4_w4]
  refine sgn4_congr fun k hk => ?_
  show W (reZ (w8 (mulF (w8 (mirF (w8 p))) (w8 q))) k) = W (reZ (mulF (mirF (w8 p)) (w8 q)) k)
  rw [re_congr (fun j hj => ?_)]
  rw [w8_at _ j hj]
  show W (mulZ (w8 (mirF (w8 p))) (w8 q) j) = W (mulZ (mirF (w8 p)) (w8 q) j)
  rw [mul_congr (w8_at _) (fun _ _ => rfl)]

theorem steps_bd {a : Nat → Nat → Int} {m : Nat} (h : f_valid a m = true) {j : Nat} (hj : j < m) : bd8 200 (stepsF a m j) := by
  simp only [f_valid, Bool.and_eq_true] at h
  have h1 := smallF_iff.1 (okBp_get h.1 hj)
  have h2 := smallF_iff.1 (okBp_get h.1 (Nat.mod_lt (j + 1) (show 0 < m by omega)))
  intro k hk
  have h1 := h1 k hk
  have h2 := h2 k hk
  show -200 ≤ W (a ((j + 1) % m) k + W (a j k * -1)) ∧ W (a ((j + 1) % m) k + W (a j k * -1)) ≤ 200
  rw [w64_in (x := a j k * -1) (by omega) (by omega), w64_in (by omega) (by omega)]
  omega
theorem isZ_iff {f : Nat → Int} : isZ f = true ↔ ∀ k, k < 8 → f k = 0 := by
  simp only [isZ, Bool.and_true, Bool.and_eq_true, beq_iff_eq]
  constructor
  · rintro ⟨h0, h1, h2, h3, h4, h5, h6, h7⟩ k hk
    rcases (by omega : k = 0 ∨ k = 1 ∨ k = 2 ∨ k = 3 ∨ k = 4 ∨ k = 5 ∨ k = 6 ∨ k = 7) with rfl | rfl | rfl | rfl | rfl | rfl | rfl | rfl <;> assumption
  · intro h
    exact ⟨h 0 (by omega), h 1 (by omega), h 2 (by omega), h 3 (by omega), h 4 (by omega), h 5 (by omega), h 6 (by omega), h 7 (by omega)⟩
/-- The program's way to refuse and the reference's. -/
theorem bad_same {a : Nat → Nat → Int} {m : Nat} (h : f_valid a m = true) : noneTo (badIt alF sgn4 (stepsF a m) (bendsF (stepsF a m) m) m) m = noneTo (badS alS crF sgn4 (stepsF a m) m) m := by
  rw [Bool.eq_iff_iff, noneTo_iff, noneTo_iff]
  have hb : ∀ i, i < m → bd8 200 (stepsF a m i) := fun i hi => steps_bd h hi
  have hpv : ∀ i, i < m → pvI i m < m := fun i hi => Nat.mod_lt _ (by omega)
  have cr : ∀ i, sgn4 (w4 (crF (w8 (stepsF a m (pvI i m))) (w8 (stepsF a m i)))) = bendsF (stepsF a m) m i := fun i => rfl
  have al : ∀ i, sgn4 (w4 (alF (w8 (stepsF a m (pvI i m))) (w8 (stepsF a m i)))) = sgn4 (w4 (reF (mulF (mirF (w8 (stepsF a m (pvI i m)))) (w8 (stepsF a m i))))) := fun i => rfl
  obtain ⟨Z, hZ⟩ : ∃ Z : Nat → Bool, ∀ i, isZ (stepsF a m i) = Z i := ⟨fun i => isZ (stepsF a m i), fun _ => rfl⟩
  have eI : ∀ i, badIt alF sgn4 (stepsF a m) (bendsF (stepsF a m) m) m i = (Z i || (bendsF (stepsF a m) m i == 0 && decide (sgn4 (w4 (reF (mulF (mirF (w8 (stepsF a m (pvI i m)))) (w8 (stepsF a m i))))) < 0))) := fun i => by rw [← hZ]; rfl
  have eS : ∀ i, badS alS crF sgn4 (stepsF a m) m i = (bendsF (stepsF a m) m i == 0 && decide (sgn4 (w4 (alS (w8 (stepsF a m (pvI i m))) (w8 (stepsF a m i)))) ≤ 0)) := fun i => rfl
  have zero : ∀ i, i < m → Z i = true → bendsF (stepsF a m) m i = 0 ∧ sgn4 (w4 (reF (mulF (mirF (w8 (stepsF a m (pvI i m)))) (w8 (stepsF a m i))))) = 0 := fun i hi hz => cross_none (hb _ (hpv i hi)) (hb i hi) (isZ_iff.1 ((hZ i).trans hz))
  have none : ∀ i, i < m → bendsF (stepsF a m) m i = 0 → sgn4 (w4 (reF (mulF (mirF (w8 (stepsF a m (pvI i m)))) (w8 (stepsF a m i))))) = 0 → Z i = true ∨ Z (pvI i m) = true := fun i hi h1 h2 => by
    rcases no_cross (hb _ (hpv i hi)) (hb i hi) h1 h2 with h | h
    · exact .inl ((hZ _).symm.trans (isZ_iff.2 h))
    · exact .inr ((hZ _).symm.trans (isZ_iff.2 h))
  constructor
  · intro hn i hi
    have hi1 := hn i hi
    have hi2 := hn _ (hpv i hi)
    rw [eI] at hi1 hi2
    rw [eS, alS_eq]
    cases hs : (bendsF (stepsF a m) m i == 0 && decide (sgn4 (w4 (reF (mulF (mirF (w8 (stepsF a m (pvI i m)))) (w8 (stepsF a m i))))) ≤ 0)) with
    | false => rfl
    | true =>
      simp only [Bool.and_eq_true, beq_iff_eq, decide_eq_true_eq] at hs
      simp only [Bool.or_eq_false_iff, Bool.and_eq_false_iff, beq_eq_false_iff_ne, decide_eq_false_iff_not] at hi1 hi2
      have : ¬ sgn4 (w4 (reF (mulF (mirF (w8 (stepsF a m (pvI i m)))) (w8 (stepsF a m i))))) < 0 := by
        rcases hi1.2 with h | h
        · exact (h hs.1).elim
        · exact h
      rcases none i hi hs.1 (by omega) with h | h
      · rw [h] at hi1; exact absurd hi1.1 (by simp)
      · rw [h] at hi2; exact absurd hi2.1 (by simp)
  · intro hn i hi
    have hi1 := hn i hi
    rw [eS, alS_eq] at hi1
    rw [eI]
    simp only [Bool.and_eq_false_iff, beq_eq_false_iff_ne, decide_eq_false_iff_not] at hi1
    simp only [Bool.or_eq_false_iff, Bool.and_eq_false_iff, beq_eq_false_iff_ne, decide_eq_false_iff_not]
    constructor
    · cases hz : Z i with
      | false => rfl
      | true =>
        have := zero i hi hz
        rcases hi1 with h | h
        · exact (h this.1).elim
        · omega
    · rcases hi1 with h | h
      · exact .inl h
      · exact .inr (by omega)
theorem con_same (a : Nat → Nat → Int) (m : Nat) : conI upF (stepsF a m) (bendsF (stepsF a m) m) m = conS upF crF sgn4 (stepsF a m) m := by
  funext i
  have cr : sgn4 (w4 (crF (w8 (stepsF a m (pvI i m))) (w8 (stepsF a m i)))) = bendsF (stepsF a m) m i := rfl
  unfold conI conS
  rw [cr]
  have hr : bendsF (stepsF a m) m i = -1 ∨ bendsF (stepsF a m) m i = 0 ∨ bendsF (stepsF a m) m i = 1 := sgn4_range _
  generalize bendsF (stepsF a m) m i = s at *
  rcases hr with rfl | rfl | rfl <;> rfl

/-- PolyTurns of a polygon; of another list. -/
def turnsOk (a : Nat → Nat → Int) (m : Nat) : Bool := noneTo (badS alS crF sgn4 (stepsF a m) m) m
def turnsN (a : Nat → Nat → Int) (m : Nat) : Int := bif turnsOk a m then sumTo (conS upF crF sgn4 (stepsF a m) m) m else 0
def F_turnsY : List SA → Option FR
  | [.row m g] => some { val := .tup [.v (i64 (turnsN (itC g) m)), .v (.bool (turnsOk (itC g) m))], obl := [allC m g, decide (m ≤ 2 ^ 38), f_valid (itC g) m == true] }
  | _ => none
def F_turnsN : List SA → Option FR
  | [.row m g] => some { val := .tup [.v (i64 0), .v (.bool false)], obl := [allC m g, decide (m ≤ 2 ^ 38), f_valid (itC g) m == false] }
  | _ => none

theorem rowC_step (a : Nat → Nat → Int) (m : Nat) : rowC (stepsF (itC (rowC a)) m) = rowC (stepsF a m) := rfl
theorem bends_itC (a : Nat → Nat → Int) (m : Nat) : bendsF (stepsF (itC (rowC a)) m) m = bendsF (stepsF a m) m := by kernel_rfl
theorem rowC_itC' (x : Nat → Nat → Int) : rowC (itC (rowC x)) = rowC x := rfl
theorem valid_itC' (a : Nat → Nat → Int) (m : Nat) : f_valid (itC (rowC a)) m = f_valid a m := by kernel_rfl

theorem ok_turnsI : SpecOk Try.prog 17 (specR md_list F_turnsY) := by
  refine specR_hr gm_yb_ok Try.func17 rfl fun sas fr hF ho => ?_
  unfold F_turnsY at hF
  split at hF
  · rename_i m g
    cases hF
    simp only [ob_cons] at ho
    obtain ⟨h1, h2, h3, _⟩ := ho
    have hv : f_valid (itC g) m = true := by simpa using h3
    refine ⟨[.row false m 8 (rowC (itC g)) 40], lamTIt m (itC g) (stepsF (itC g) m) (bendsF (stepsF (itC g) m) m) (badIt alF sgn4 (stepsF (itC g) m) (bendsF (stepsF (itC g) m) m) m) (conI upF (stepsF (itC g) m) (bendsF (stepsF (itC g) m) m) m), 100, .cons (ABeq.row fun j hj => allC_get h1 j hj) .nil,
      lam1 (by kernel_rfl) (sumTIt gmTI_okt (fun p q k => i64B_W _) m (rowC (itC g)) 40 m _ _ (of_decide_eq_true h2)), ?_⟩
    show GoodQ (execF Try.prog gm_yb (lamTIt m (itC g) (stepsF (itC g) m) (bendsF (stepsF (itC g) m) m) (badIt alF sgn4 (stepsF (itC g) m) (bendsF (stepsF (itC g) m) m) m) (conI upF (stepsF (itC g) m) (bendsF (stepsF (itC g) m) m) m)) 100 Try.f17 [.sl 0 8 0 0 m none] [.row false m 8 (rowC (itC g)) 40] (packK 1)) _
    rw [treeFTI, zero_row, rowC_step, bends_itC, valid_itC']
    have hpos := valid_pos h3
    refine good_needs ?_ ?_
    · simp only [ob_cons, ob_nil, allC_of (m := m) (a := itC g) fun j _ => rfl, h2, h3, Nat.zero_add, and_true, true_and, Nat.ble_eq, Nat.le_refl, decide_eq_true_eq]
      exact ⟨hpos, hpos, chk_of ⟨rfl, Hsim.refl _⟩⟩
    · rw [bad_same hv, con_same]
      refine good_cond (fun hq => ?_) fun hq => ?_
      · refine good_out ⟨_, rfl, ?_, .cons (ABeq.row fun j hj => (allC_get h1 j hj).symm) .nil⟩
        simp only [turnsN, turnsOk, hq, cond_true]
      · refine good_out ⟨_, rfl, ?_, .cons (ABeq.row fun j hj => (allC_get h1 j hj).symm) .nil⟩
        simp only [turnsN, turnsOk, hq, cond_false]
  · cases hF

theorem ok_turnsS : SpecOk Try.prog 18 (specR md_list F_turnsY) := by
  refine specR_hr gm_y_ok Try.func18 rfl fun sas fr hF ho => ?_
  unfold F_turnsY at hF
  split at hF
  · rename_i m g
    cases hF
    simp only [ob_cons] at ho
    obtain ⟨h1, h2, h3, _⟩ := ho
    refine ⟨[.row false m 8 (rowC (itC g)) 40], lamTS m (itC g) (stepsF (itC g) m) (badS alS crF sgn4 (stepsF (itC g) m) m) (conS upF crF sgn4 (stepsF (itC g) m) m), 100, .cons (ABeq.row fun j hj => allC_get h1 j hj) .nil,
      lam1 (by kernel_rfl) (sumTS gmTS_ok (fun p q k => i64B_W _) (fun p k => i64B_W _) m (rowC (itC g)) 40 m _ (of_decide_eq_true h2)), ?_⟩
    show GoodQ (execF Try.prog gm_y (lamTS m (itC g) (stepsF (itC g) m) (badS alS crF sgn4 (stepsF (itC g) m) m) (conS upF crF sgn4 (stepsF (itC g) m) m)) 100 Try.f18 [.sl 0 8 0 0 m none] [.row false m 8 (rowC (itC g)) 40] (packK 1)) _
    rw [treeFTS, zero_row, rowC_step, valid_itC']
    have hpos := valid_pos h3
    refine good_needs ?_ ?_
    · simp only [ob_cons, ob_nil, allC_of (m := m) (a := itC g) fun j _ => rfl, h2, h3, Nat.zero_add, and_true, true_and, Nat.ble_eq, Nat.le_refl, decide_eq_true_eq]
      exact ⟨hpos, chk_of ⟨rfl, Hsim.refl _⟩⟩
    · refine good_cond (fun hq => ?_) fun hq => ?_
      · refine good_out ⟨_, rfl, ?_, .cons (ABeq.row fun j hj => (allC_get h1 j hj).symm) .nil⟩
        simp only [turnsN, turnsOk, hq, cond_true]
      · refine good_out ⟨_, rfl, ?_, .cons (ABeq.row fun j hj => (allC_get h1 j hj).symm) .nil⟩
        simp only [turnsN, turnsOk, hq, cond_false]
  · cases hF

theorem ok_turnsNI : SpecOk Try.prog 17 (specR md_list F_turnsN) := by
  refine specR_hr gm_n_ok Try.func17 rfl fun sas fr hF ho => ?_
  unfold F_turnsN at hF
  split at hF
  · rename_i m g
    cases hF
    simp only [ob_cons] at ho
    obtain ⟨h1, h2, h3, _⟩ := ho
    refine ⟨[.row false m 8 (rowC (itC g)) 40], noLam, 100, .cons (ABeq.row fun j hj => allC_get h1 j hj) .nil, noLam' _, ?_⟩
    show GoodQ (execF Try.prog gm_n noLam 100 Try.f17 [.sl 0 8 0 0 m none] [.row false m 8 (rowC (itC g)) 40] (packK 1)) _
    rw [treeNTI, zero_row, valid_itC']
    refine good_needs ?_ (good_out ⟨_, rfl, rfl, .cons (ABeq.row fun j hj => (allC_get h1 j hj).symm) .nil⟩)
    simp only [ob_cons, ob_nil, allC_of (m := m) (a := itC g) fun j _ => rfl, h2, h3, Nat.zero_add, and_true, Nat.ble_eq, Nat.le_refl]
  · cases hF

theorem ok_turnsNS : SpecOk Try.prog 18 (specR md_list F_turnsN) := by
  refine specR_hr gm_n_ok Try.func18 rfl fun sas fr hF ho => ?_
  unfold F_turnsN at hF
  split at hF
  · rename_i m g
    cases hF
    simp only [ob_cons] at ho
    obtain ⟨h1, h2, h3, _⟩ := ho
    refine ⟨[.row false m 8 (rowC (itC g)) 40], noLam, 100, .cons (ABeq.row fun j hj => allC_get h1 j hj) .nil, noLam' _, ?_⟩
    show GoodQ (execF Try.prog gm_n noLam 100 Try.f18 [.sl 0 8 0 0 m none] [.row false m 8 (rowC (itC g)) 40] (packK 1)) _
    rw [treeNTS, zero_row, valid_itC']
    refine good_needs ?_ (good_out ⟨_, rfl, rfl, .cons (ABeq.row fun j hj => (allC_get h1 j hj).symm) .nil⟩)
    simp only [ob_cons, ob_nil, allC_of (m := m) (a := itC g) fun j _ => rfl, h2, h3, Nat.zero_add, and_true, Nat.ble_eq, Nat.le_refl]
  · cases hF

end Go.Proofs.Ytoligfhcogligaa

/- slices.Reverse on points: its trees. Conditions: a list of points. -/
namespace Go.Proofs.Ytoligfhcogligaa
open Go.RowKit
set_option maxRecDepth 100000

noncomputable abbrev fRv : Func := Try.f48
abbrev lvRv : Ex → List Nat := lv3 [0, 2, 3] [] []
abbrev stRv (m : Nat) (c : Option Nat) (i j : Int) : List AV := [.sl 0 8 0 0 m c, .v (i64 i), .v (i64 j)]
abbrev hpRv (m : Nat) (h : Nat → Nat → Int) : List AB := [.row true m 8 (row8 h) 40]
theorem rndRv (m : Nat) (c : Option Nat) (h : Nat → Nat → Int) (i : Nat) (j : Int) : execC Try.prog g0 100 noLam (loopAt 0 fRv) (mkT 0 28 ((lvRv .normal).zip (stRv m c i j))) (hpRv m h) (leafV 28 lvRv 1)
    = bif decide ((↑i : Int) < j) then needs [decide ((0 : Int) ≤ j), decide (j < (↑m : Int)), decide ((0 : Nat) + Int.toNat j < m), decide ((↑i : Int) < (↑m : Int)), decide ((0 : Nat) + Int.toNat (↑i : Int) < m), decide ((↑i : Int) < (↑m : Int)), decide ((0 : Nat) + Int.toNat (↑i : Int) < m), decide ((0 : Int) ≤ j), decide (j < (↑m : Int)), decide ((0 : Nat) + Int.toNat j < m)] (Res.out Ex.normal [AV.sl (0 : Nat) (8 : Nat) (0 : Nat) (0 : Nat) m c, AV.v (Value.int IntKind.i64 (IntKind.wrap IntKind.i64 ((↑i : Int) + (1 : Int)))), AV.v (Value.int IntKind.i64 (IntKind.wrap IntKind.i64 (j - (1 : Int))))] [AB.row true m (8 : Nat) (fun q ↦ [Value.int IntKind.i64 (bif Nat.beq q ((0 : Nat) + Int.toNat j) then h ((0 : Nat) + Int.toNat (↑i : Int)) (0 : Nat) else bif Nat.beq q ((0 : Nat) + Int.toNat (↑i : Int)) then h ((0 : Nat) + Int.toNat j) (0 : Nat) else h q (0 : Nat)), Value.int IntKind.i64 (bif Nat.beq q ((0 : Nat) + Int.toNat j) then h ((0 : Nat) + Int.toNat (↑i : Int)) (1 : Nat) else bif Nat.beq q ((0 : Nat) + Int.toNat (↑i : Int)) then h ((0 : Nat) + Int.toNat j) (1 : Nat) else h q (1 : Nat)), Value.int IntKind.i64 (bif Nat.beq q ((0 : Nat) + Int.toNat j) then h ((0 : Nat) + Int.toNat (↑i : Int)) (2 : Nat) else bif Nat.beq q ((0 : Nat) + Int.toNat (↑i : Int)) then h ((0 : Nat) + Int.toNat j) (2 : Nat) else h q (2 : Nat)), Value.int IntKind.i64 (bif Nat.beq q ((0 : Nat) + Int.toNat j) then h ((0 : Nat) + Int.toNat (↑i : Int)) (3 : Nat) else bif Nat.beq q ((0 : Nat) + Int.toNat (↑i : Int)) then h ((0 : Nat) + Int.toNat j) (3 : Nat) else h q (3 : Nat)), Value.int IntKind.i64 (bif Nat.beq q ((0 : Nat) + Int.toNat j) then h ((0 : Nat) + Int.toNat (↑i : Int)) (4 : Nat) else bif Nat.beq q ((0 : Nat) + Int.toNat (↑i : Int)) then h ((0 : Nat) + Int.toNat j) (4 : Nat) else h q (4 : Nat)), Value.int IntKind.i64 (bif Nat.beq q ((0 : Nat) + Int.toNat j) then h ((0 : Nat) + Int.toNat (↑i : Int)) (5 : Nat) else bif Nat.beq q ((0 : Nat) + Int.toNat (↑i : Int)) then h ((0 : Nat) + Int.toNat j) (5 : Nat) else h q (5 : Nat)), Value.int IntKind.i64 (bif Nat.beq q ((0 : Nat) + Int.toNat j) then h ((0 : Nat) + Int.toNat (↑i : Int)) (6 : Nat) else bif Nat.beq q ((0 : Nat) + Int.toNat (↑i : Int)) then h ((0 : Nat) + Int.toNat j) (6 : Nat) else h q (6 : Nat)), Value.int IntKind.i64 (bif Nat.beq q ((0 : Nat) + Int.toNat j) then h ((0 : Nat) + Int.toNat (↑i : Int)) (7 : Nat) else bif Nat.beq q ((0 : Nat) + Int.toNat (↑i : Int)) then h ((0 : Nat) + Int.toNat j) (7 : Nat) else h q (7 : Nat))]) (40 : TypeId)]) else Res.out (Ex.exit (0 : Nat)) [] [AB.row true m (8 : Nat) (row8 h) (40 : TypeId)] := by kernel_rfl

noncomputable abbrev lamRv (m : Nat) (c : Option Nat) (h h2 : Nat → Nat → Int) : Nat → Option Sum := oneL 0 (atS 28 (lvRv .normal) 1 (stRv m c 0 ((m : Int) - 1)) (hpRv m h) (fun K => K .normal (mkT 0 28 []) (hpRv m h2)))
theorem treeRv (m : Nat) (c : Option Nat) (h h2 : Nat → Nat → Int) : execF Try.prog g0 (lamRv m c h h2) 100 fRv [.sl 0 8 0 0 m c] (hpRv m h) (packK 1)
    = needs [chk ([AV.sl (0 : Nat) (8 : Nat) (0 : Nat) (0 : Nat) m c, AV.v (Value.int IntKind.i64 (0 : Int)), AV.v (Value.int IntKind.i64 (IntKind.wrap IntKind.i64 ((↑m : Int) - (1 : Int))))] = stRv m c (0 : Int) ((↑m : Int) - (1 : Int)) ∧ Hsim [AB.row true m (8 : Nat) (row8 h) (40 : TypeId)] (hpRv m h))] (Res.out Ex.ret [AV.tup []] [AB.row true m (8 : Nat) (row8 h2) (40 : TypeId)]) := by kernel_rfl

end Go.Proofs.Ytoligfhcogligaa

/- A list, the other way round. No conditions. -/
namespace Go.Proofs.Ytoligfhcogligaa
open Go.RowKit

/-- The list, the other way round. -/
def bkC (a : Nat → Nat → Int) (m : Nat) : Nat → Nat → Int := fun j => a (m - 1 - j)

end Go.Proofs.Ytoligfhcogligaa

/- slices.Reverse and PolyBack on points. Conditions: a list of points. -/
namespace Go.Proofs.Ytoligfhcogligaa
open Go.RowKit
set_option maxRecDepth 100000

def rvT (a : Nat → Nat → Int) (m i : Nat) : Nat → Nat → Int := fun j k => bif Nat.blt j i || Nat.ble m (j + i) then a (m - 1 - j) k else a j k
theorem rvT_0 {a : Nat → Nat → Int} {m j : Nat} (h : j < m) : rvT a m 0 j = a j := by
  funext k
  unfold rvT
  have e1 : Nat.blt j 0 = false := by
    cases hb : Nat.blt j 0 with
    | false => rfl
    | true => rw [Nat.blt_eq] at hb; omega
  have e2 : Nat.ble m (j + 0) = false := by
    cases hb : Nat.ble m (j + 0) with
    | false => rfl
    | true => have := Nat.le_of_ble_eq_true hb; omega
  rw [e1, e2]
  rfl
theorem rvT_end {a : Nat → Nat → Int} {m i j : Nat} (hi : m ≤ i + i + 1) (h : j < m) : rvT a m i j = bkC a m j := by
  funext k
  unfold rvT bkC
  cases hb : Nat.blt j i || Nat.ble m (j + i) with
  | true => rfl
  | false =>
    rw [Bool.or_eq_false_iff] at hb
    have h1 : ¬ j < i := fun h => by rw [blt_yes h] at hb; cases hb.1
    have h2 : ¬ m ≤ j + i := fun h => by rw [Nat.ble_eq_true_of_le h] at hb; cases hb.2
    rw [show m - 1 - j = j by omega]
    rfl
theorem rvT_next {a : Nat → Nat → Int} {m i q k : Nat} (hi : i + i + 1 < m) (hq : q < m) : (bif Nat.beq q (m - 1 - i) then rvT a m i i k else bif Nat.beq q i then rvT a m i (m - 1 - i) k else rvT a m i q k) = rvT a m (i + 1) q k := by
  have not : ∀ {j : Nat}, i ≤ j → j + i < m → rvT a m i j k = a j k := fun {j} h1 h2 => by
    unfold rvT
    have e1 : Nat.blt j i = false := by
      cases hb : Nat.blt j i with
      | false => rfl
      | true => rw [Nat.blt_eq] at hb; omega
    have e2 : Nat.ble m (j + i) = false := by
      cases hb : Nat.ble m (j + i) with
      | false => rfl
      | true => have := Nat.le_of_ble_eq_true hb; omega
    rw [e1, e2]
    rfl
  have is : ∀ {j i : Nat}, j < i ∨ m ≤ j + i → rvT a m i j k = a (m - 1 - j) k := fun {j i} h => by
    unfold rvT
    rcases h with h | h
    · rw [blt_yes h]; rfl
    · rw [Nat.ble_eq_true_of_le h, Bool.or_true]; rfl
  by_cases c1 : q = m - 1 - i
  · rw [c1, Nat.beq_refl, cond_true, not (by omega) (by omega), is (.inr (by omega)), show m - 1 - (m - 1 - i) = i by omega]
  rw [beq_ne c1, cond_false]
  by_cases c2 : q = i
  · rw [c2, Nat.beq_refl, cond_true, not (by omega) (by omega), is (.inl (by omega))]
  rw [beq_ne c2, cond_false]
  by_cases c3 : q < i ∨ m ≤ q + i
  · rw [is c3, is (by omega)]
  · rw [not (by omega) (by omega)]
    unfold rvT
    have e1 : Nat.blt q (i + 1) = false := by
      cases hb : Nat.blt q (i + 1) with
      | false => rfl
      | true => rw [Nat.blt_eq] at hb; omega
    have e2 : Nat.ble m (q + (i + 1)) = false := by
      cases hb : Nat.ble m (q + (i + 1)) with
      | false => rfl
      | true => have := Nat.le_of_ble_eq_true hb; omega
    rw [e1, e2]
    rfl
theorem sumRv (m : Nat) (c : Option Nat) (a : Nat → Nat → Int) (hm : m ≤ 2 ^ 38) (h0 : 0 < m) : SumOk Try.prog 1 (.block 0 (.loop (loopAt 0 fRv))) (atS 28 (lvRv .normal) 1 (stRv m c 0 ((m : Int) - 1)) (hpRv m (rvT a m 0)) (fun K => K .normal (mkT 0 28 []) (hpRv m (bkC a m)))) := by
  have h := loop_at (m0 := 1) (N := 28) (id := 0) (c := loopAt 0 fRv) (out := fun K => K .normal (mkT 0 28 []) (hpRv m (bkC a m))) g0_ok (n := 100) (m := 1) (lv := lvRv) (σ := Nat) (fun i => stRv m c i ((m : Int) - 1 - i)) (fun i => hpRv m (rvT a m i)) (fun i => i + i ≤ m) (fun i => m - i) 0 (fun _ => noLam) (lv3_ris rfl rfl rfl) (Nat.le_refl _) (Nat.zero_le _) fun K Q hk i hi => ⟨noLam_ok _ _ _, ?_⟩
  · rw [show (m : Int) - 1 - ((0 : Nat) : Int) = (m : Int) - 1 by omega] at h
    exact h
  rw [rndRv]
  refine good_cond (fun c1 => ?_) fun c1 => ?_
  · have c1 := of_decide_eq_true c1
    have e1 : Int.toNat ((m : Int) - 1 - (i : Int)) = m - 1 - i := by omega
    refine good_needs ?_ (good_out ⟨i + 1, ⟨by omega, by omega⟩, ?_, ?_⟩)
    · simp only [ob_cons, ob_nil, and_true, decide_eq_true_eq]
      omega
    · rw [wr_in (x := (i : Int) + 1) (by omega), wr_in (x := (m : Int) - 1 - (i : Int) - 1) (by omega)]
      rw [show (m : Int) - 1 - (i : Int) - 1 = (m : Int) - 1 - ((i + 1 : Nat) : Int) by omega]
      rfl
    · refine .cons (ABeq.row fun q hq => ?_) .nil
      rw [e1, Int.toNat_natCast]
      simp only [Nat.zero_add]
      show row8 (fun q k => bif Nat.beq q (m - 1 - i) then rvT a m i i k else bif Nat.beq q i then rvT a m i (m - 1 - i) k else rvT a m i q k) q = row8 (rvT a m (i + 1)) q
      exact row8_congr fun k _ => rvT_next (by omega) hq
  · have c1 := of_decide_eq_false c1
    refine good_out ⟨hpRv m (bkC a m), .cons (ABeq.row fun q hq => ?_) .nil, ?_⟩
    · exact row8_congr fun k _ => by rw [rvT_end (by omega) hq]
    · rw [if_pos rfl]
      exact hk
def FrvE : List AV → List AB → Option HR
  | [.sl 0 8 0 0 m _], [.row true n 8 g t] => some { val := .tup [], out := [.row true m 8 (row8 (bkC (itC g) m)) t], obl := [Nat.beq t 40, Nat.ble m n, allC n g, decide (m ≤ 2 ^ 38), decide (0 < m)] }
  | _, _ => none
theorem ok_rv : SpecOk Try.prog 48 (specH [] FrvE) := by
  refine specH_ok g0_ok Try.func48 rfl fun avs H hr hF ho => ?_
  unfold FrvE at hF
  split at hF
  · rename_i m c n g t
    cases hF
    simp only [ob_cons] at ho
    obtain ⟨h0, h1, h2, h3, h4, _⟩ := ho
    have h0 := Nat.eq_of_beq_eq_true h0
    have h1 := Nat.le_of_ble_eq_true h1
    have h3 := of_decide_eq_true h3
    have h4 := of_decide_eq_true h4
    subst h0
    refine ⟨hpRv m (rvT (itC g) m 0), lamRv m c (rvT (itC g) m 0) (bkC (itC g) m), 100, .cons (ABeq.cut h1 fun j hj => ?_) .nil, lam1 (by kernel_rfl) (sumRv m c (itC g) h3 h4), ?_⟩
    · rw [allC_get h2 j (by omega)]
      exact row8_congr fun k _ => by rw [rvT_0 hj]
    · show GoodQ (execF Try.prog g0 (lamRv m c (rvT (itC g) m 0) (bkC (itC g) m)) 100 fRv [.sl 0 8 0 0 m c] (hpRv m (rvT (itC g) m 0)) (packK 1)) _
      rw [treeRv]
      refine good_needs ?_ (good_out ⟨rfl, Hsim.refl _⟩)
      rw [ob_cons]
      refine ⟨chk_of ⟨?_, Hsim.refl _⟩, rfl⟩
      rw [wr_in (x := (m : Int) - 1) (by omega)]
  · cases hF
def FvaO (va : (Nat → Nat → Int) → Nat → Bool) : List SA → Option FR
  | [.row m g] => some { val := .v (.bool (va (itC g) m)), obl := [allC m g, decide (m ≤ 2 ^ 38)] }
  | _ => none
def gmBk (va : (Nat → Nat → Int) → Nat → Bool) : Gam := ext (ext g0 23 (specR md_list (FvaO va))) 48 (specH [] FrvE)
theorem treeBk (va : (Nat → Nat → Int) → Nat → Bool) (m : Nat) (a : Nat → Nat → Int) : execF Try.prog (gmBk va) noLam 100 Try.f15 [.sl 0 8 0 0 m none] [.row false m 8 (row8 a) 40] (packK 1)
    = needs [Nat.ble ((0 : Nat) + m) m, allC m fun q ↦ row8 a ((0 : Nat) + q), decide (m ≤ (274877906944 : Nat))] (bif !va (itC fun q ↦ row8 a ((0 : Nat) + q)) m then Res.out Ex.ret [AV.tup [AV.v (Value.slice none (0 : Nat) (0 : Nat)), AV.v (Value.bool false)]] [AB.row false m (8 : Nat) (row8 a) (40 : TypeId)] else needs [decide ((0 : Nat) < m), Nat.ble ((0 : Nat) + m) (549755813888 : Nat), Nat.ble ((0 : Nat) + m) m, decide ((↑((0 : Nat) + m) : Int) ≤ (↑((0 : Nat) + m) : Int)), decide ((↑((0 : Nat) + m) : Int) ≤ (↑((0 : Nat) + m) : Int)), Nat.ble ((0 : Nat) + m) ((0 : Nat) + m), Nat.ble (Int.toNat ((↑((0 : Nat) + m) : Int) - (0 : Int))) ((0 : Nat) + m), allC ((0 : Nat) + m) fun q ↦ [Value.int IntKind.i64 (a ((0 : Nat) + (q - (0 : Nat))) (0 : Nat)), Value.int IntKind.i64 (a ((0 : Nat) + (q - (0 : Nat))) (1 : Nat)), Value.int IntKind.i64 (a ((0 : Nat) + (q - (0 : Nat))) (2 : Nat)), Value.int IntKind.i64 (a ((0 : Nat) + (q - (0 : Nat))) (3 : Nat)), Value.int IntKind.i64 (a ((0 : Nat) + (q - (0 : Nat))) (4 : Nat)), Value.int IntKind.i64 (a ((0 : Nat) + (q - (0 : Nat))) (5 : Nat)), Value.int IntKind.i64 (a ((0 : Nat) + (q - (0 : Nat))) (6 : Nat)), Value.int IntKind.i64 (a ((0 : Nat) + (q - (0 : Nat))) (7 : Nat))], decide (Int.toNat ((↑((0 : Nat) + m) : Int) - (0 : Int)) ≤ (274877906944 : Nat)), decide ((0 : Nat) < Int.toNat ((↑((0 : Nat) + m) : Int) - (0 : Int)))] (Res.out Ex.ret [AV.tup [AV.sl (1 : Nat) (8 : Nat) (0 : Nat) (0 : Nat) (Int.toNat ((↑((0 : Nat) + m) : Int) - (0 : Int))) (some (Int.toNat ((↑((0 : Nat) + m) : Int) - (0 : Int)))), AV.v (Value.bool true)]] [AB.row false m (8 : Nat) (row8 a) (40 : TypeId), AB.row true (Int.toNat ((↑((0 : Nat) + m) : Int) - (0 : Int))) (8 : Nat) (row8 (bkC (itC fun q ↦ [Value.int IntKind.i64 (a ((0 : Nat) + (q - (0 : Nat))) (0 : Nat)), Value.int IntKind.i64 (a ((0 : Nat) + (q - (0 : Nat))) (1 : Nat)), Value.int IntKind.i64 (a ((0 : Nat) + (q - (0 : Nat))) (2 : Nat)), Value.int IntKind.i64 (a ((0 : Nat) + (q - (0 : Nat))) (3 : Nat)), Value.int IntKind.i64 (a ((0 : Nat) + (q - (0 : Nat))) (4 : Nat)), Value.int IntKind.i64 (a ((0 : Nat) + (q - (0 : Nat))) (5 : Nat)), Value.int IntKind.i64 (a ((0 : Nat) + (q - (0 : Nat))) (6 : Nat)), Value.int IntKind.i64 (a ((0 : Nat) + (q - (0 : Nat))) (7 : Nat))]) (Int.toNat ((↑((0 : Nat) + m) : Int) - (0 : Int))))) (40 : Nat)])) := by kernel_rfl

end Go.Proofs.Ytoligfhcogligaa

/- PolyBack: its word. Conditions: a polygon. -/
namespace Go.Proofs.Ytoligfhcogligaa
open Go.RowKit
set_option maxRecDepth 100000

theorem okv_I : SpecOk Try.prog 23 (specR md_list (FvaO f_valid)) := ok_valid
theorem gmBk_ok : GamOk Try.prog (gmBk f_valid) := ext_ok (ext_ok g0_ok okv_I) ok_rv
/-- A polygon: the list the other way round. -/
def FbkY (va : (Nat → Nat → Int) → Nat → Bool) (bk : (Nat → Nat → Int) → Nat → Nat → Nat → Int) : List SA → Option FR
  | [.row m g] => some { val := .tup [.sl 0 8 0 0 m (some m), .v (.bool true)], new := [.row true m 8 (row8 (bk (itC g) m)) 40], obl := [allC m g, decide (m ≤ 2 ^ 38), va (itC g) m] }
  | _ => none
theorem valid_m {a : Nat → Nat → Int} {m : Nat} (h : f_valid a m = true) : 0 < m ∧ m ≤ 48 := by
  simp only [f_valid, Bool.and_eq_true] at h
  have := inR_iff.1 h.2
  omega
theorem ok_bkY : SpecOk Try.prog 15 (specR md_list (FbkY f_valid bkC)) := by
  refine specR_hr gmBk_ok Try.func15 rfl fun sas fr hF ho => ?_
  unfold FbkY at hF
  split at hF
  · rename_i m g
    cases hF
    simp only [ob_cons] at ho
    obtain ⟨h1, h2, h3, _⟩ := ho
    have h2 := of_decide_eq_true h2
    obtain ⟨p1, p2⟩ := valid_m h3
    refine ⟨[.row false m 8 (row8 (itC g)) 40], noLam, 100, .cons (ABeq.row fun j hj => allC_get h1 j hj) .nil, noLam' _, ?_⟩
    show GoodQ (execF Try.prog (gmBk f_valid) noLam 100 Try.f15 [.sl 0 8 0 0 m none] [.row false m 8 (row8 (itC g)) 40] (packK 1)) _
    rw [treeBk]
    have e : Int.toNat ((((0 + m : Nat)) : Int) - 0) = m := by omega
    simp only [Nat.zero_add, Nat.sub_zero] at e ⊢
    rw [e]
    have hv : f_valid (itC fun q => row8 (itC g) q) m = true := h3
    have ha : allC m (row8 (itC g)) = true := allC_of (a := itC g) fun _ _ => rfl
    refine good_needs ?_ (good_false (by rw [hv]; rfl) (good_needs ?_ (good_out ⟨_, rfl, rfl, .cons (ABeq.row fun j hj => (allC_get h1 j hj).symm) (.cons (ABeq.row fun j hj => rfl) .nil)⟩)))
    · simp only [ob_cons, ob_nil, and_true, Nat.ble_eq, decide_eq_true_eq, Nat.le_refl, true_and]
      exact ⟨ha, h2⟩
    · simp only [ob_cons, ob_nil, and_true, Nat.ble_eq, decide_eq_true_eq, Nat.le_refl, true_and, Int.le_refl]
      exact ⟨p1, by omega, ha, h2, p1⟩
  · cases hF

end Go.Proofs.Ytoligfhcogligaa

/- Small words for laws of polygons. No conditions. -/
namespace Go.Proofs.Ytoligfhcogligaa
open Go.RowKit
set_option maxRecDepth 100000

theorem sayP {c : Bool} {H : List AB} (h : c = true) : GoodQ (.out .ret [.v (.bool c)] H) SaysYes := by
  subst h
  exact good_out rfl
theorem okB1 {m : Nat} {b : Nat → Int} (hb : okB m (rowB b) = true) : okB m (rowB b) = true := hb
theorem p38 {n : Nat} (h : n ≤ 48) : decide (n ≤ 274877906944) = true := decide_eq_true (by omega)
theorem allC_r8 (m : Nat) (f : Nat → Nat → Int) : allC m (row8 f) = true := allC_of (a := f) fun _ _ => rfl
theorem bleP (n : Nat) : Nat.ble n n = true := by simp
theorem validP (a : Nat → Nat → Int) (m : Nat) : f_valid (itC (row8 a)) m = f_valid a m := rfl
theorem itC_eta (h : Nat → Nat → Int) : (itC fun q => row8 h q) = itC (row8 h) := rfl
end Go.Proofs.Ytoligfhcogligaa
