import Derived.Test.YtacmiobhnfeflaaGreatPt
import Derived.Test.YtacmiobhnfeflaaGreatShelf
namespace Go.Proofs.YtacmiobhnfeflaaGreat
open Go.RowKit

/-- -1, 0 or 1. -/
def cmpI (x y : Int) : Int := if x < y then -1 else if y < x then 1 else 0
def cmpP (a b : Pt) : Int := if a.1 = b.1 then cmpI a.2 b.2 else cmpI a.1 b.1
def crossS (a b c : Pt) : Int := (b.1 - a.1) * (c.2 - a.2) - (b.2 - a.2) * (c.1 - a.1)

set_option maxHeartbeats 400000 in
theorem isNaN_any (x : Int) (w : World) :
    Calls Tryz.prog 137 #[.int .i64 x] w fun e w' => e = .returned (.bool false) ∧ w = w' := by
  go_enter Tryz.func137, Tryz.ntmps137
  go_wp2
  go_ret
  simp

set_option maxHeartbeats 1000000 in
theorem compare64_any (x y : Int) (w : World) :
    Calls Tryz.prog 130 #[.int .i64 x, .int .i64 y] w fun e w' => e = .returned (.int .i64 (cmpI x y)) ∧ w = w' := by
  by_cases h1 : x < y
  · have HR : RowKit.Hid (cmpI x y = -1) := if_pos h1
    go_enter Tryz.func130, Tryz.ntmps130
    go_wp2_with (go_at_call 137; (with_reducible refine (isNaN_any _ _).mono ?_); rintro e w' ⟨rfl, rfl⟩)
    go_ret
    exact ⟨ret_int HR.out.symm, rfl⟩
  · by_cases h2 : y < x
    · have HR : RowKit.Hid (cmpI x y = 1) := by show cmpI x y = 1; unfold cmpI; rw [if_neg h1, if_pos h2]
      go_enter Tryz.func130, Tryz.ntmps130
      go_wp2_with (go_at_call 137; (with_reducible refine (isNaN_any _ _).mono ?_); rintro e w' ⟨rfl, rfl⟩)
      go_ret
      exact ⟨ret_int HR.out.symm, rfl⟩
    · have HR : RowKit.Hid (cmpI x y = 0) := by show cmpI x y = 0; unfold cmpI; rw [if_neg h1, if_neg h2]
      go_enter Tryz.func130, Tryz.ntmps130
      go_wp2_with (go_at_call 137; (with_reducible refine (isNaN_any _ _).mono ?_); rintro e w' ⟨rfl, rfl⟩)
      go_ret
      exact ⟨ret_int HR.out.symm, rfl⟩

/-- Two points are boxed: two blocks are laid. -/
def TwoBlocks (w w' : World) : Prop := ∃ q os', w' = Sort.grow (w.drewN q) os'
theorem two_of (w : World) (o1 o2 : Obj) : TwoBlocks w ((w.alloc o1).alloc o2) := ⟨0, _, by rw [Sort.alloc_eq_grow, Sort.alloc_eq_grow, Sort.grow_grow]; rfl⟩

set_option maxHeartbeats 1000000 in
theorem comparePt_any (a b : Pt) (w : World) :
    Calls Tryz.prog 109 #[.agg #[.int .i64 a.1, .int .i64 a.2], .agg #[.int .i64 b.1, .int .i64 b.2]] w fun e w' => e = .returned (.int .i64 (cmpP a b)) ∧ TwoBlocks w w' := by
  by_cases h : a.1 = b.1
  · have hd : (a.1 != b.1) = false := by simp [h]
    have HR : RowKit.Hid (cmpP a b = cmpI a.2 b.2) := if_pos h
    clear h
    go_enter Tryz.func109, Tryz.ntmps109
    go_wp2_with (go_at_call 130; (with_reducible refine (compare64_any _ _ _).mono ?_); rintro e w' ⟨rfl, rfl⟩)
    go_ret
    exact ⟨ret_int HR.out.symm, two_of _ _ _⟩
  · have hd : (a.1 != b.1) = true := by simp [h]
    have HR : RowKit.Hid (cmpP a b = cmpI a.1 b.1) := if_neg h
    clear h
    go_enter Tryz.func109, Tryz.ntmps109
    go_wp2_with (go_at_call 130; (with_reducible refine (compare64_any _ _ _).mono ?_); rintro e w' ⟨rfl, rfl⟩)
    go_ret
    exact ⟨ret_int HR.out.symm, two_of _ _ _⟩

/-- A point that is not so far out that a product of differences could wrap. -/
structure PtSm (p : Pt) : Prop where
  x1 : -268435456 ≤ p.1
  x2 : p.1 ≤ 268435456
  y1 : -268435456 ≤ p.2
  y2 : p.2 ≤ 268435456

theorem mul_bd2 (a b : Int) (M : Int) (ha : -M ≤ a) (ha' : a ≤ M) (hb : -M ≤ b) (hb' : b ≤ M) (_ : 0 ≤ M) : -(M * M) ≤ a * b ∧ a * b ≤ M * M := by
  have h1 : (M - a) * (M + b) ≥ 0 := Int.mul_nonneg (by omega) (by omega)
  have h2 : (M + a) * (M - b) ≥ 0 := Int.mul_nonneg (by omega) (by omega)
  have h3 : (M - a) * (M - b) ≥ 0 := Int.mul_nonneg (by omega) (by omega)
  have h4 : (M + a) * (M + b) ≥ 0 := Int.mul_nonneg (by omega) (by omega)
  simp only [Int.sub_mul, Int.mul_sub, Int.add_mul, Int.mul_add] at h1 h2 h3 h4
  have e1 : a * M = M * a := Int.mul_comm _ _
  have e2 : M * b = b * M := Int.mul_comm _ _
  constructor <;> omega

theorem cross_bd {a b c : Pt} (ha : PtSm a) (hb : PtSm b) (hc : PtSm c) :
    (-288230376151711744 ≤ (b.1 - a.1) * (c.2 - a.2) ∧ (b.1 - a.1) * (c.2 - a.2) ≤ 288230376151711744) ∧ (-288230376151711744 ≤ (b.2 - a.2) * (c.1 - a.1) ∧ (b.2 - a.2) * (c.1 - a.1) ≤ 288230376151711744) := by
  obtain ⟨a1, a2, a3, a4⟩ := ha
  obtain ⟨b1, b2, b3, b4⟩ := hb
  obtain ⟨c1, c2, c3, c4⟩ := hc
  have h1 := mul_bd2 (b.1 - a.1) (c.2 - a.2) 536870912 (by omega) (by omega) (by omega) (by omega) (by omega)
  have h2 := mul_bd2 (b.2 - a.2) (c.1 - a.1) 536870912 (by omega) (by omega) (by omega) (by omega) (by omega)
  omega

set_option maxRecDepth 100000 in
set_option maxHeartbeats 1000000 in
theorem cross_any (a b c : Pt) (ha : PtSm a) (hb : PtSm b) (hc : PtSm c) (w : World) :
    Calls Tryz.prog 111 #[.agg #[.int .i64 a.1, .int .i64 a.2], .agg #[.int .i64 b.1, .int .i64 b.2], .agg #[.int .i64 c.1, .int .i64 c.2]] w fun e w' => e = .returned (.int .i64 (crossS a b c)) ∧ Below w.heap.size w w' := by
  obtain ⟨⟨q1, q2⟩, q3, q4⟩ := cross_bd ha hb hc
  obtain ⟨a1, a2, a3, a4⟩ := ha
  obtain ⟨b1, b2, b3, b4⟩ := hb
  obtain ⟨c1, c2, c3, c4⟩ := hc
  go_enter Tryz.func111, Tryz.ntmps111
  go_wp2
  go_ret
  exact ⟨rfl, by repeat (first | exact Below.refl _ _ | refine below_drewN ?_ _ | refine Below.alloc ?_ (by first | (simp; done) | (simp; omega)) _)⟩

def dropS (a b c : Pt) : Bool := decide (crossS a b c ≤ 0)

set_option maxRecDepth 100000 in
set_option maxHeartbeats 1000000 in
theorem right_any (a b c : Pt) (ha : PtSm a) (hb : PtSm b) (hc : PtSm c) (w : World) :
    Calls Tryz.prog 110 #[.agg #[.int .i64 a.1, .int .i64 a.2], .agg #[.int .i64 b.1, .int .i64 b.2], .agg #[.int .i64 c.1, .int .i64 c.2]] w fun e w' => e = .returned (.bool (dropS a b c)) ∧ Below w.heap.size w w' := by
  go_enter Tryz.func110, Tryz.ntmps110
  go_wp2_with fail
  (with_reducible refine (cross_any a b c ha hb hc _).mono ?_)
  rintro e w' ⟨rfl, hb2⟩
  go_wp2_with fail
  go_ret
  exact ⟨rfl, ((((Below.refl _ _).alloc (Nat.le_refl _) _).alloc (by simp) _).alloc (by simp; omega) _).trans (hb2.mono (by simp; omega))⟩

end Go.Proofs.YtacmiobhnfeflaaGreat
