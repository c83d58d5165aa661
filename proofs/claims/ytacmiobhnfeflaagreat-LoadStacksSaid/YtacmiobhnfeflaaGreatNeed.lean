import Derived.Test.YtacmiobhnfeflaaGreatWords
import Derived.StillTailTactics
namespace Go.Proofs.YtacmiobhnfeflaaGreat
open Go.RowKit

/-- Divided by 1000, and rounded away from 0. -/
def awayS (n : Int) : Int := if n < 0 then n / 1000 else -(-n / 1000)

set_option maxHeartbeats 400000 in
theorem away_any (n : Int) (h1 : -4611686018427387904 ≤ n) (h2 : n ≤ 4611686018427387904) (w : World) :
    Calls Tryz.prog 68 #[.int .i64 n] w fun e w' => e = .returned (.int .i64 (awayS n)) ∧ w = w' := by
  by_cases h : n < 0
  · have HR : RowKit.Hid (awayS n = n / 1000) := if_pos h
    go_enter Tryz.func68, Tryz.ntmps68
    go_wp2_with fail
    (with_reducible refine (div_any n 1000 (by omega) h1 h2 (by omega) _).mono ?_)
    rintro e w' ⟨rfl, rfl⟩
    go_wp2_with fail
    go_ret
    exact ⟨ret_int HR.out.symm, rfl⟩
  · have HR : RowKit.Hid (awayS n = -(-n / 1000)) := if_neg h
    have e1 : IntKind.i64.wrap (-n) = -n := IntWalk.i64_in _ (by omega)
    have hb : -4611686018427387904 ≤ -n / 1000 ∧ -n / 1000 ≤ 0 := by omega
    have e2 : IntKind.i64.wrap (-(-n / 1000)) = -(-n / 1000) := IntWalk.i64_in _ (by omega)
    have E2 := Lib.hid e2
    clear e2 hb
    go_enter Tryz.func68, Tryz.ntmps68
    go_wp2_with fail
    (with_reducible refine (div_any (-n) 1000 (by omega) (by omega) (by omega) (by omega) _).mono ?_)
    rintro e w' ⟨rfl, rfl⟩
    have e2 := E2.out
    clear E2
    generalize -n / 1000 = q at *
    go_wp2_with fail
    go_ret
    exact ⟨ret_int HR.out.symm, rfl⟩

/-- An acceleration of the deck. -/
structure Shk where
  x : Int
  y : Int
  z : Int
structure Shk.Ok (s : Shk) : Prop where
  x : -2000 ≤ s.x ∧ s.x ≤ 2000
  y : -2000 ≤ s.y ∧ s.y ≤ 2000
  z : 0 ≤ s.z ∧ s.z ≤ 2000
def Shk.v (s : Shk) : Value := .agg #[.int .i64 s.x, .int .i64 s.y, .int .i64 s.z]

set_option maxHeartbeats 400000 in
theorem steady_yes (s : Shk) (hs : s.Ok) (w : World) :
    Calls Tryz.prog 41 #[.agg #[.int .i64 s.x, .int .i64 s.y, .int .i64 s.z]] w fun e w' => e = .returned (.bool true) ∧ Below w.heap.size w w' := by
  obtain ⟨hx, hy, hz⟩ := hs
  have HX := Lib.hid hx
  have HY := Lib.hid hy
  have HZ := Lib.hid hz
  clear hx hy hz
  go_enter Tryz.func41, Tryz.ntmps41
  go_wp2_with fail
  (with_reducible refine (between_yes _ _ _ HX.out _).mono ?_)
  rintro e w' ⟨rfl, rfl⟩
  go_wp2_with fail
  (with_reducible refine (between_yes _ _ _ HY.out _).mono ?_)
  rintro e w' ⟨rfl, rfl⟩
  go_wp2_with fail
  (with_reducible refine (between_yes _ _ _ HZ.out _).mono ?_)
  rintro e w' ⟨rfl, rfl⟩
  go_wp2_with fail
  go_ret
  exact ⟨rfl, (Below.refl _ _).alloc (Nat.le_refl _) _⟩

def needS (m : Int) (s : Shk) : Int × Int := (awayS (m * s.x), awayS (m * s.y))
set_option maxRecDepth 100000 in
set_option maxHeartbeats 1000000 in
theorem need_any (m : Int) (s : Shk) (h0 : 0 ≤ m) (h1 : m ≤ 16777216) (hs : s.Ok) (w : World) :
    Calls Tryz.prog 44 #[.int .i64 m, .agg #[.int .i64 s.x, .int .i64 s.y, .int .i64 s.z]] w fun e w' =>
      e = .returned (.agg #[.int .i64 (needS m s).1, .int .i64 (needS m s).2]) ∧ Below w.heap.size w w' := by
  obtain ⟨⟨x1, x2⟩, ⟨y1, y2⟩, z1, z2⟩ := hs
  have bd : ∀ t : Int, -2000 ≤ t → t ≤ 2000 → -(m * 2000) ≤ m * t ∧ m * t ≤ m * 2000 := by
    intro t t1 t2
    have e1 := Int.mul_le_mul_of_nonneg_left t2 h0
    have e2 := Int.mul_le_mul_of_nonneg_left t1 h0
    omega
  have bx := bd s.x x1 x2
  have by_ := bd s.y y1 y2
  have e1 : IntKind.i64.wrap (m * s.x) = m * s.x := IntWalk.i64_in _ (by omega)
  have e2 : IntKind.i64.wrap (m * s.y) = m * s.y := IntWalk.i64_in _ (by omega)
  have a1 := fun W => (away_any (m * s.x) (by omega) (by omega) W).mono (fun (e : Ending) w' ⟨he, hw⟩ => (⟨he, hw.symm⟩ : e = Ending.returned (.int .i64 (awayS (m * s.x))) ∧ w' = W))
  have a2 := fun W => (away_any (m * s.y) (by omega) (by omega) W).mono (fun (e : Ending) w' ⟨he, hw⟩ => (⟨he, hw.symm⟩ : e = Ending.returned (.int .i64 (awayS (m * s.y))) ∧ w' = W))
  have HN : RowKit.Hid (needS m s = (awayS (m * s.x), awayS (m * s.y))) := rfl
  have A1 := Lib.hid a1
  have A2 := Lib.hid a2
  clear a1 a2 bd
  go_enter Tryz.func44, Tryz.ntmps44
  go_wp2_with fail
  have hS := (Blk.new w 61 #[.int .i64 s.x, .int .i64 s.y, .int .i64 s.z]).alloc (Obj.cells #[Value.int .i64 0, Value.int .i64 0] 57)
  have hR := Blk.new (w.alloc (Obj.cells #[.int .i64 s.x, .int .i64 s.y, .int .i64 s.z] 61)) 57 #[Value.int .i64 0, Value.int .i64 0]
  have hB : Below w.heap.size w ((w.alloc (Obj.cells #[.int .i64 s.x, .int .i64 s.y, .int .i64 s.z] 61)).alloc (Obj.cells #[Value.int .i64 0, Value.int .i64 0] 57)) := ((Below.refl _ _).alloc (Nat.le_refl _) _).alloc (by simp) _
  rw [show (w.alloc (Obj.cells #[.int .i64 s.x, .int .i64 s.y, .int .i64 s.z] 61)).heap.size = w.heap.size + 1 from by simp] at hR
  generalize (w.alloc _).alloc _ = w2 at *
  have c0 : w2.cell? ⟨w.heap.size, 0, none⟩ = some (.int .i64 s.x) := by simpa using hS.cell 0
  have c1 : w2.cell? ⟨w.heap.size, 1, none⟩ = some (.int .i64 s.y) := by simpa using hS.cell 1
  refine wp_region_still_tail 11 (by kernel_rfl) (by kernel_rfl) ?_
  simp only [List.take_succ_cons, List.take_zero, List.drop_succ_cons, List.drop_zero]
  repeat still_step
  still_call (A1.out _)
  repeat still_step
  still_call (A2.out _)
  repeat still_step
  try refine wpStill_nil ?_
  change wpList _ _ _ _ _ w2.drew
  have hR3 := hR.drew
  have hB3 : Below w.heap.size w w2.drew := below_drewN hB 1
  generalize w2.drew = w3 at *
  clear c0 c1 hS hR hB
  generalize awayS (m * s.x) = p at *
  generalize awayS (m * s.y) = q at *
  have q0 : w3.cell? ⟨w.heap.size + 1, 0, none⟩ = some (.int .i64 0) := by simpa using hR3.cell 0
  have q1 : w3.cell? ⟨w.heap.size + 1, 1, none⟩ = some (.int .i64 0) := by simpa using hR3.cell 1
  have f0 := hR3.frozen 0
  have f1 := hR3.frozen 1
  go_wp2_with fail
  have hR4 := (hR3.set_ 0 (.int .i64 p)).set_ 1 (.int .i64 q)
  have hB4 := (hB3.setCell (p := ⟨w.heap.size + 1, 0, none⟩) (by simp) (.int .i64 p)).setCell (p := ⟨w.heap.size + 1, 1, none⟩) (by simp) (.int .i64 q)
  clear q0 q1 f0 f1
  generalize (w3.setCell _ _).setCell _ _ = w4 at *
  have q0 : w4.cell? ⟨w.heap.size + 1, 0, none⟩ = some (.int .i64 p) := by simpa using hR4.cell 0
  have q1 : w4.cell? ⟨w.heap.size + 1, 1, none⟩ = some (.int .i64 q) := by simpa using hR4.cell 1
  exact bodyPost_ret (v := .agg #[.int .i64 p, .int .i64 q]) (by simp [results, Tryz.results44, go_sem, q0, q1]) rfl ⟨by rw [HN.out], hB4⟩

end Go.Proofs.YtacmiobhnfeflaaGreat
