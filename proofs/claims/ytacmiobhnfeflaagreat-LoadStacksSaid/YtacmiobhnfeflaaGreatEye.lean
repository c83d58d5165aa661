import Derived.Test.YtacmiobhnfeflaaGreatMeets
namespace Go.Proofs.YtacmiobhnfeflaaGreat
open Go.RowKit

/-- An eye of a load. -/
structure Ey where
  x : Int
  y : Int
  z : Int
  s : Int
instance : Inhabited Ey := ⟨⟨0, 0, 0, 0⟩⟩
def Ey.okB (e : Ey) : Bool := decide ((-131072 ≤ e.x ∧ e.x ≤ 131072) ∧ (-131072 ≤ e.y ∧ e.y ≤ 131072) ∧ (0 ≤ e.z ∧ e.z ≤ 131072) ∧ (0 ≤ e.s ∧ e.s ≤ 4194304))

set_option maxHeartbeats 1000000 in
theorem validEye_any (p : Ey) (w : World) :
    Calls Tryz.prog 21 #[.agg #[.int .i64 p.x, .int .i64 p.y, .int .i64 p.z, .int .i64 p.s]] w fun e w' =>
      e = .returned (.bool p.okB) ∧ Below w.heap.size w w' := by
  have R : ∀ v : Bool, v = p.okB → ∀ {W : World}, Below w.heap.size w W → (Ending.returned (.bool v) = .returned (.bool p.okB) ∧ Below w.heap.size w W) := fun v hv W hW => ⟨by rw [hv], hW⟩
  have R' := Lib.hid R
  clear R
  by_cases h1 : -131072 ≤ p.x ∧ p.x ≤ 131072
  · by_cases h2 : -131072 ≤ p.y ∧ p.y ≤ 131072
    · by_cases h3 : 0 ≤ p.z ∧ p.z ≤ 131072
      · by_cases h4 : 0 ≤ p.s ∧ p.s ≤ 4194304
        · have H := Lib.hid (And.intro h1 (And.intro h2 (And.intro h3 h4)))
          clear h1 h2 h3 h4
          go_enter Tryz.func21, Tryz.ntmps21
          go_wp2_with fail
          (with_reducible refine (between_yes _ _ _ H.out.1 _).mono ?_)
          rintro e w' ⟨rfl, rfl⟩
          go_wp2_with fail
          (with_reducible refine (between_yes _ _ _ H.out.2.1 _).mono ?_)
          rintro e w' ⟨rfl, rfl⟩
          go_wp2_with fail
          (with_reducible refine (between_yes _ _ _ H.out.2.2.1 _).mono ?_)
          rintro e w' ⟨rfl, rfl⟩
          go_wp2_with fail
          (with_reducible refine (between_yes _ _ _ H.out.2.2.2 _).mono ?_)
          rintro e w' ⟨rfl, rfl⟩
          go_wp2_with fail
          go_ret
          exact R'.out true (by unfold Ey.okB; exact (decide_eq_true H.out).symm) (by repeat (first | exact Below.refl _ _ | refine below_drewN ?_ _ | refine Below.alloc ?_ (by simp) _))
        · have H := Lib.hid (And.intro h1 (And.intro h2 h3))
          have H4 := Lib.hid h4
          clear h1 h2 h3 h4
          go_enter Tryz.func21, Tryz.ntmps21
          go_wp2_with fail
          (with_reducible refine (between_yes _ _ _ H.out.1 _).mono ?_)
          rintro e w' ⟨rfl, rfl⟩
          go_wp2_with fail
          (with_reducible refine (between_yes _ _ _ H.out.2.1 _).mono ?_)
          rintro e w' ⟨rfl, rfl⟩
          go_wp2_with fail
          (with_reducible refine (between_yes _ _ _ H.out.2.2 _).mono ?_)
          rintro e w' ⟨rfl, rfl⟩
          go_wp2_with fail
          (with_reducible refine (between_no _ _ _ H4.out _).mono ?_)
          rintro e w' ⟨rfl, rfl⟩
          go_wp2_with fail
          go_ret
          exact R'.out false (by unfold Ey.okB; exact (decide_eq_false fun hh => H4.out hh.2.2.2).symm) (by repeat (first | exact Below.refl _ _ | refine below_drewN ?_ _ | refine Below.alloc ?_ (by simp) _))
      · have H := Lib.hid (And.intro h1 h2)
        have H4 := Lib.hid h3
        clear h1 h2 h3
        go_enter Tryz.func21, Tryz.ntmps21
        go_wp2_with fail
        (with_reducible refine (between_yes _ _ _ H.out.1 _).mono ?_)
        rintro e w' ⟨rfl, rfl⟩
        go_wp2_with fail
        (with_reducible refine (between_yes _ _ _ H.out.2 _).mono ?_)
        rintro e w' ⟨rfl, rfl⟩
        go_wp2_with fail
        (with_reducible refine (between_no _ _ _ H4.out _).mono ?_)
        rintro e w' ⟨rfl, rfl⟩
        go_wp2_with fail
        go_ret
        exact R'.out false (by unfold Ey.okB; exact (decide_eq_false fun hh => H4.out hh.2.2.1).symm) (by repeat (first | exact Below.refl _ _ | refine below_drewN ?_ _ | refine Below.alloc ?_ (by simp) _))
    · have H := Lib.hid h1
      have H4 := Lib.hid h2
      clear h1 h2
      go_enter Tryz.func21, Tryz.ntmps21
      go_wp2_with fail
      (with_reducible refine (between_yes _ _ _ H.out _).mono ?_)
      rintro e w' ⟨rfl, rfl⟩
      go_wp2_with fail
      (with_reducible refine (between_no _ _ _ H4.out _).mono ?_)
      rintro e w' ⟨rfl, rfl⟩
      go_wp2_with fail
      go_ret
      exact R'.out false (by unfold Ey.okB; exact (decide_eq_false fun hh => H4.out hh.2.1).symm) (by repeat (first | exact Below.refl _ _ | refine below_drewN ?_ _ | refine Below.alloc ?_ (by simp) _))
  · have H4 := Lib.hid h1
    clear h1
    go_enter Tryz.func21, Tryz.ntmps21
    go_wp2_with fail
    (with_reducible refine (between_no _ _ _ H4.out _).mono ?_)
    rintro e w' ⟨rfl, rfl⟩
    go_wp2_with fail
    go_ret
    exact R'.out false (by unfold Ey.okB; exact (decide_eq_false fun hh => H4.out hh.1).symm) (by repeat (first | exact Below.refl _ _ | refine below_drewN ?_ _ | refine Below.alloc ?_ (by simp) _))

def Bx.rests (a b : Bx) : Bool := decide (a.z0 = b.z1) && a.meets2 b

set_option maxHeartbeats 1000000 in
theorem rests_any (a b : Bx) (w : World) :
    Calls Tryz.prog 51 #[.agg #[.int .i64 a.x0, .int .i64 a.y0, .int .i64 a.z0, .int .i64 a.x1, .int .i64 a.y1, .int .i64 a.z1], .agg #[.int .i64 b.x0, .int .i64 b.y0, .int .i64 b.z0, .int .i64 b.x1, .int .i64 b.y1, .int .i64 b.z1]] w fun e w' => e = .returned (.bool (a.rests b)) ∧ Below w.heap.size w w' := by
  by_cases h : a.z0 = b.z1
  · have hR : a.rests b = a.meets2 b := by unfold Bx.rests; rw [decide_eq_true h]; rfl
    have hR' := Lib.hid hR
    have hz : (a.z0 == b.z1) = true := by simp [h]
    clear hR h
    go_enter Tryz.func51, Tryz.ntmps51
    go_wp2_with fail
    (with_reducible refine (meets2_any a b _).mono ?_)
    rintro e w1 ⟨rfl, hb⟩
    go_wp2_with fail
    go_ret
    refine ⟨ret_bool (hR'.out).symm, ?_⟩
    exact (((Below.refl _ _).alloc (Nat.le_refl _) _).alloc (by simp) _).trans (hb.mono (by simp; omega))
  · have hR : a.rests b = false := by unfold Bx.rests; rw [decide_eq_false h]; rfl
    have hR' := Lib.hid hR
    have hz : (a.z0 == b.z1) = false := by simp [h]
    clear hR h
    go_enter Tryz.func51, Tryz.ntmps51
    go_wp2_with fail
    go_ret
    refine ⟨ret_bool (hR'.out).symm, ?_⟩
    exact ((Below.refl _ _).alloc (Nat.le_refl _) _).alloc (by simp) _

end Go.Proofs.YtacmiobhnfeflaaGreat
