import Derived.Test.YtacmiobhnfeflaaGreatBase
namespace Go.Proofs.YtacmiobhnfeflaaGreat
open Go.RowKit

def Bx.meets2 (a b : Bx) : Bool := decide (a.x0 < b.x1 ∧ b.x0 < a.x1 ∧ a.y0 < b.y1 ∧ b.y0 < a.y1)
set_option maxHeartbeats 2000000 in
theorem meets2_any (a b : Bx) (w : World) :
    Calls Tryz.prog 32 #[.agg #[.int .i64 a.x0, .int .i64 a.y0, .int .i64 a.z0, .int .i64 a.x1, .int .i64 a.y1, .int .i64 a.z1], .agg #[.int .i64 b.x0, .int .i64 b.y0, .int .i64 b.z0, .int .i64 b.x1, .int .i64 b.y1, .int .i64 b.z1], .int .i64 2] w fun e w' => e = .returned (.bool (a.meets2 b)) ∧ Below w.heap.size w w' := by
  have R : ∀ v : Bool, v = a.meets2 b → ∀ {W : World}, Below w.heap.size w W → (Ending.returned (.bool v) = .returned (.bool (a.meets2 b)) ∧ Below w.heap.size w W) := fun v hv W hW => ⟨by rw [hv], hW⟩
  have R' := Lib.hid R
  clear R
  by_cases h1 : a.x0 < b.x1
  · skip
    by_cases h2 : b.x0 < a.x1
    · skip
      by_cases h3 : a.y0 < b.y1
      · skip
        by_cases h4 : b.y0 < a.y1
        · skip
          go_enter Tryz.func32, Tryz.ntmps32
          go_wp2
          refine wp_loop_rounds 3 ?_
          rw [rounds_succ]
          go_wp2
          go_quiet (fail)
          go_wp2
          rw [rounds_succ]
          go_wp2
          go_quiet (fail)
          go_wp2
          rw [rounds_succ]
          go_wp2
          go_ret
          exact R'.out true (by simp [Bx.meets2]; omega) (by repeat (first | exact Below.refl _ _ | refine below_drewN ?_ _ | refine Below.alloc ?_ (by simp) _))
        · skip
          go_enter Tryz.func32, Tryz.ntmps32
          go_wp2
          refine wp_loop_rounds 3 ?_
          rw [rounds_succ]
          go_wp2
          go_quiet (fail)
          go_wp2
          rw [rounds_succ]
          go_wp2
          go_quiet (fail)
          go_wp2
          go_ret
          exact R'.out false (by simp [Bx.meets2]; omega) (by repeat (first | exact Below.refl _ _ | refine below_drewN ?_ _ | refine Below.alloc ?_ (by simp) _))
      · skip
        have hd : decide (b.y1 ≤ a.y0) = true := by simp; omega
        go_enter Tryz.func32, Tryz.ntmps32
        go_wp2
        refine wp_loop_rounds 3 ?_
        rw [rounds_succ]
        go_wp2
        go_quiet (fail)
        go_wp2
        rw [rounds_succ]
        go_wp2
        go_quiet (fail)
        go_wp2
        go_ret
        exact R'.out false (by simp [Bx.meets2]; omega) (by repeat (first | exact Below.refl _ _ | refine below_drewN ?_ _ | refine Below.alloc ?_ (by simp) _))
    · skip
      go_enter Tryz.func32, Tryz.ntmps32
      go_wp2
      refine wp_loop_rounds 3 ?_
      rw [rounds_succ]
      go_wp2
      go_quiet (fail)
      go_wp2
      go_ret
      exact R'.out false (by simp [Bx.meets2]; omega) (by repeat (first | exact Below.refl _ _ | refine below_drewN ?_ _ | refine Below.alloc ?_ (by simp) _))
  · skip
    have hd : decide (b.x1 ≤ a.x0) = true := by simp; omega
    go_enter Tryz.func32, Tryz.ntmps32
    go_wp2
    refine wp_loop_rounds 3 ?_
    rw [rounds_succ]
    go_wp2
    go_quiet (fail)
    go_wp2
    go_ret
    exact R'.out false (by simp [Bx.meets2]; omega) (by repeat (first | exact Below.refl _ _ | refine below_drewN ?_ _ | refine Below.alloc ?_ (by simp) _))

def Bx.meets3 (a b : Bx) : Bool := decide (a.x0 < b.x1 ∧ b.x0 < a.x1 ∧ a.y0 < b.y1 ∧ b.y0 < a.y1 ∧ a.z0 < b.z1 ∧ b.z0 < a.z1)
set_option maxHeartbeats 2000000 in
theorem meets3_any (a b : Bx) (w : World) :
    Calls Tryz.prog 32 #[.agg #[.int .i64 a.x0, .int .i64 a.y0, .int .i64 a.z0, .int .i64 a.x1, .int .i64 a.y1, .int .i64 a.z1], .agg #[.int .i64 b.x0, .int .i64 b.y0, .int .i64 b.z0, .int .i64 b.x1, .int .i64 b.y1, .int .i64 b.z1], .int .i64 3] w fun e w' => e = .returned (.bool (a.meets3 b)) ∧ Below w.heap.size w w' := by
  have R : ∀ v : Bool, v = a.meets3 b → ∀ {W : World}, Below w.heap.size w W → (Ending.returned (.bool v) = .returned (.bool (a.meets3 b)) ∧ Below w.heap.size w W) := fun v hv W hW => ⟨by rw [hv], hW⟩
  have R' := Lib.hid R
  clear R
  by_cases h1 : a.x0 < b.x1
  · skip
    by_cases h2 : b.x0 < a.x1
    · skip
      by_cases h3 : a.y0 < b.y1
      · skip
        by_cases h4 : b.y0 < a.y1
        · skip
          by_cases h5 : a.z0 < b.z1
          · skip
            by_cases h6 : b.z0 < a.z1
            · skip
              go_enter Tryz.func32, Tryz.ntmps32
              go_wp2
              refine wp_loop_rounds 4 ?_
              rw [rounds_succ]
              go_wp2
              go_quiet (fail)
              go_wp2
              rw [rounds_succ]
              go_wp2
              go_quiet (fail)
              go_wp2
              rw [rounds_succ]
              go_wp2
              go_quiet (fail)
              go_wp2
              rw [rounds_succ]
              go_wp2
              go_ret
              exact R'.out true (by simp [Bx.meets3]; omega) (by repeat (first | exact Below.refl _ _ | refine below_drewN ?_ _ | refine Below.alloc ?_ (by simp) _))
            · skip
              go_enter Tryz.func32, Tryz.ntmps32
              go_wp2
              refine wp_loop_rounds 4 ?_
              rw [rounds_succ]
              go_wp2
              go_quiet (fail)
              go_wp2
              rw [rounds_succ]
              go_wp2
              go_quiet (fail)
              go_wp2
              rw [rounds_succ]
              go_wp2
              go_quiet (fail)
              go_wp2
              go_ret
              exact R'.out false (by simp [Bx.meets3]; omega) (by repeat (first | exact Below.refl _ _ | refine below_drewN ?_ _ | refine Below.alloc ?_ (by simp) _))
          · skip
            have hd : decide (b.z1 ≤ a.z0) = true := by simp; omega
            go_enter Tryz.func32, Tryz.ntmps32
            go_wp2
            refine wp_loop_rounds 4 ?_
            rw [rounds_succ]
            go_wp2
            go_quiet (fail)
            go_wp2
            rw [rounds_succ]
            go_wp2
            go_quiet (fail)
            go_wp2
            rw [rounds_succ]
            go_wp2
            go_quiet (fail)
            go_wp2
            go_ret
            exact R'.out false (by simp [Bx.meets3]; omega) (by repeat (first | exact Below.refl _ _ | refine below_drewN ?_ _ | refine Below.alloc ?_ (by simp) _))
        · skip
          go_enter Tryz.func32, Tryz.ntmps32
          go_wp2
          refine wp_loop_rounds 4 ?_
          rw [rounds_succ]
          go_wp2
          go_quiet (fail)
          go_wp2
          rw [rounds_succ]
          go_wp2
          go_quiet (fail)
          go_wp2
          go_ret
          exact R'.out false (by simp [Bx.meets3]; omega) (by repeat (first | exact Below.refl _ _ | refine below_drewN ?_ _ | refine Below.alloc ?_ (by simp) _))
      · skip
        have hd : decide (b.y1 ≤ a.y0) = true := by simp; omega
        go_enter Tryz.func32, Tryz.ntmps32
        go_wp2
        refine wp_loop_rounds 4 ?_
        rw [rounds_succ]
        go_wp2
        go_quiet (fail)
        go_wp2
        rw [rounds_succ]
        go_wp2
        go_quiet (fail)
        go_wp2
        go_ret
        exact R'.out false (by simp [Bx.meets3]; omega) (by repeat (first | exact Below.refl _ _ | refine below_drewN ?_ _ | refine Below.alloc ?_ (by simp) _))
    · skip
      go_enter Tryz.func32, Tryz.ntmps32
      go_wp2
      refine wp_loop_rounds 4 ?_
      rw [rounds_succ]
      go_wp2
      go_quiet (fail)
      go_wp2
      go_ret
      exact R'.out false (by simp [Bx.meets3]; omega) (by repeat (first | exact Below.refl _ _ | refine below_drewN ?_ _ | refine Below.alloc ?_ (by simp) _))
  · skip
    have hd : decide (b.x1 ≤ a.x0) = true := by simp; omega
    go_enter Tryz.func32, Tryz.ntmps32
    go_wp2
    refine wp_loop_rounds 4 ?_
    rw [rounds_succ]
    go_wp2
    go_quiet (fail)
    go_wp2
    go_ret
    exact R'.out false (by simp [Bx.meets3]; omega) (by repeat (first | exact Below.refl _ _ | refine below_drewN ?_ _ | refine Below.alloc ?_ (by simp) _))
end Go.Proofs.YtacmiobhnfeflaaGreat
