import Derived.Test.YtacmiobhnfeflaaGreatHull
namespace Go.Proofs.YtacmiobhnfeflaaGreat
open Go.RowKit Go.Sort Go.Shelf
attribute [local go_sem] Oper.semAt_some

/-- The corners of a box in the plan. -/
def Bx.cs (b : Bx) : List Pt := [(b.x0, b.y0), (b.x0, b.y1), (b.x1, b.y0), (b.x1, b.y1)]
/-- A box's own box. -/
def BxIn (W : World) (B : Nat) (b : Bx) : Prop := W.heap[B]? = some (.cells #[.int .i64 b.x0, .int .i64 b.y0, .int .i64 b.z0, .int .i64 b.x1, .int .i64 b.y1, .int .i64 b.z1] 66 (0, 0))
theorem BxIn.cells {W : World} {B : Nat} {b : Bx} (h : BxIn W B b) : W.cell? ⟨B, 0, none⟩ = some (.int .i64 b.x0) ∧ W.cell? ⟨B, 1, none⟩ = some (.int .i64 b.y0) ∧ W.cell? ⟨B, 3, none⟩ = some (.int .i64 b.x1) ∧ W.cell? ⟨B, 4, none⟩ = some (.int .i64 b.y1) := by
  refine ⟨?_, ?_, ?_, ?_⟩ <;> (unfold World.cell?; rw [show W.heap[B]? = _ from h]; rfl)
theorem BxIn.below {W W' : World} {B n₀ : Nat} {b : Bx} (h : BxIn W B b) (hb : Below n₀ W W') (hlt : B < n₀) : BxIn W' B b := (hb.block B hlt).trans h

theorem ix0 (a b : Int) (w : World) : (Instr.index 126 (.agg #[.int .i64 a, .int .i64 b]) (.int .i64 0)).run Tryz.prog w = .ok (.int .i64 a) w := by kernel_rfl
theorem ix1 (a b : Int) (w : World) : (Instr.index 126 (.agg #[.int .i64 a, .int .i64 b]) (.int .i64 1)).run Tryz.prog w = .ok (.int .i64 b) w := by kernel_rfl

set_option maxRecDepth 100000 in
set_option maxHeartbeats 4000000 in
/-- The corners of a box: for every loop body that keeps what lay below n₀. -/
theorem boxC1_in (F : Fence) (n : Nat) (h7 : F.fn 92) (hro : F.round = none) (hn : 1 ≤ n) (l Bb : Nat) (bx : Bx) (Kp : World → World → Prop) (hkp : ∀ X Y, Kp X Y → BxIn X Bb bx → BxIn Y Bb bx) (J Jx : List Pt → World → Prop) (W : World)
    (hY : ∀ pre x W, J pre W → pre.length < 4 → YieldAt F (n - 1) Tryz.prog l #[.agg #[.int .i64 x.1, .int .i64 x.2]] W fun e W' =>
      (e = .returned (.bool true) ∧ J (pre ++ [x]) W' ∧ Kp W W') ∨ (e = .returned (.bool false) ∧ Jx (pre ++ [x]) W'))
    (hB : BxIn W Bb bx) (h0 : J [] W) :
    CallsIn F n Tryz.prog 92 #[.func (.yield l) #[] #[], .pointer (some ⟨Bb, 0, none⟩)] W fun e W' => (∃ v, e = .returned v) ∧
      ((∃ ys, ys = bx.cs ∧ J ys W') ∨ (∃ pre, pre <+: bx.cs ∧ Jx pre W')) := by
  refine callsIn_of_wp Tryz.func92 rfl h7 ?_ hro
  simp only [Tryz.ntmps92, List.size_toArray, List.length_cons, List.length_nil, Nat.reduceAdd, Nat.reduceSub, Array.replicate_succ, Array.replicate_zero, List.push_toArray, List.append_toArray, List.nil_append, List.cons_append]
  obtain ⟨c0, c1, c3, c4⟩ := hB.cells
  have I0 := ix0
  have I1 := ix1
  gi_wp2
  refine wpIn_loop_rounds 3 ?_
  rw [roundsIn_succ]
  gi_wp2
  refine wpIn_loop_rounds 3 ?_
  rw [roundsIn_succ]
  obtain ⟨fn1, tmps1, assign1, body1, hy1, hR1⟩ := hY _ (bx.x0, bx.y0) _ h0 (by simp)
  dsimp only at hy1
  gi_wp2
  refine hR1.mono ?_
  rintro e W1 (⟨rfl, hJ1, hk1⟩ | ⟨rfl, hJx1⟩)
  · have hB1 := hkp _ _ hk1 hB
    obtain ⟨c0, c1, c3, c4⟩ := hB1.cells
    gi_wp2
    rw [roundsIn_succ]
    obtain ⟨fn2, tmps2, assign2, body2, hy2, hR2⟩ := hY _ (bx.x0, bx.y1) _ hJ1 (by simp)
    dsimp only at hy2
    gi_wp2
    refine hR2.mono ?_
    rintro e W2 (⟨rfl, hJ2, hk2⟩ | ⟨rfl, hJx2⟩)
    · have hB2 := hkp _ _ hk2 hB1
      obtain ⟨c0, c1, c3, c4⟩ := hB2.cells
      gi_wp2
      rw [roundsIn_succ]
      gi_wp2
      rw [roundsIn_succ]
      gi_wp2
      refine wpIn_loop_rounds 3 ?_
      rw [roundsIn_succ]
      obtain ⟨fn3, tmps3, assign3, body3, hy3, hR3⟩ := hY _ (bx.x1, bx.y0) _ hJ2 (by simp)
      dsimp only at hy3
      gi_wp2
      refine hR3.mono ?_
      rintro e W3 (⟨rfl, hJ3, hk3⟩ | ⟨rfl, hJx3⟩)
      · have hB3 := hkp _ _ hk3 hB2
        obtain ⟨c0, c1, c3, c4⟩ := hB3.cells
        gi_wp2
        rw [roundsIn_succ]
        obtain ⟨fn4, tmps4, assign4, body4, hy4, hR4⟩ := hY _ (bx.x1, bx.y1) _ hJ3 (by simp)
        dsimp only at hy4
        gi_wp2
        refine hR4.mono ?_
        rintro e W4 (⟨rfl, hJ4, hk4⟩ | ⟨rfl, hJx4⟩)
        · gi_wp2
          rw [roundsIn_succ]
          gi_wp2
          rw [roundsIn_succ]
          gi_wp2
          go_end0
          exact ⟨⟨_, rfl⟩, .inl ⟨_, rfl, hJ4⟩⟩
        · gi_wp2
          refine bodyPost_ret (results_none rfl _ _ _) rfl ?_
          exact ⟨⟨_, rfl⟩, .inr ⟨_, ⟨[], rfl⟩, hJx4⟩⟩
      · gi_wp2
        refine bodyPost_ret (results_none rfl _ _ _) rfl ?_
        exact ⟨⟨_, rfl⟩, .inr ⟨_, ⟨[(bx.x1, bx.y1)], rfl⟩, hJx3⟩⟩
    · gi_wp2
      refine bodyPost_ret (results_none rfl _ _ _) rfl ?_
      exact ⟨⟨_, rfl⟩, .inr ⟨_, ⟨[(bx.x1, bx.y0), (bx.x1, bx.y1)], rfl⟩, hJx2⟩⟩
  · gi_wp2
    refine bodyPost_ret (results_none rfl _ _ _) rfl ?_
    exact ⟨⟨_, rfl⟩, .inr ⟨_, ⟨[(bx.x0, bx.y1), (bx.x1, bx.y0), (bx.x1, bx.y1)], rfl⟩, hJx1⟩⟩

set_option maxHeartbeats 1000000 in
theorem boxC_in (F : Fence) (n : Nat) (h5 : F.fn 73) (hro : F.round = none) (bx : Bx) (w : World) :
    CallsIn F n Tryz.prog 73 #[.agg #[.int .i64 bx.x0, .int .i64 bx.y0, .int .i64 bx.z0, .int .i64 bx.x1, .int .i64 bx.y1, .int .i64 bx.z1]] w fun e w' => e = .returned (.func (.func 92) #[] #[.pointer (some ⟨w.heap.size, 0, none⟩)]) ∧ BxIn w' w.heap.size bx ∧ Below w.heap.size w w' := by
  refine callsIn_of_wp Tryz.func73 rfl h5 ?_ hro
  simp only [Tryz.ntmps73, List.size_toArray, List.length_cons, List.length_nil, Nat.reduceAdd, Nat.reduceSub, Array.replicate_succ, Array.replicate_zero, List.push_toArray, List.append_toArray, List.nil_append, List.cons_append]
  gi_wp2
  go_ret
  exact ⟨rfl, heap_alloc_new w _, (Below.refl _ w).alloc (Nat.le_refl _) _⟩

theorem boxC_stops (F : Fence) (n : Nat) (h7 : F.fn 92) (hro : F.round = none) (hn : 1 ≤ n) (Bb : Nat) (bx : Bx) (Kp : World → World → Prop) (hkp : ∀ X Y, Kp X Y → BxIn X Bb bx → BxIn Y Bb bx) (w : World) (hlt : Bb < w.heap.size) (hB : BxIn w Bb bx) :
    SeqStopsK F n Tryz.prog 92 #[.pointer (some ⟨Bb, 0, none⟩)] (fun x : Pt => #[.agg #[.int .i64 x.1, .int .i64 x.2]]) Kp (fun ys => ys = bx.cs) (fun pre => pre <+: bx.cs) 4 w := fun l J Jx W hW _ _ hY h0 =>
  boxC1_in F n h7 hro hn l Bb bx Kp hkp J Jx W hY (hB.below hW hlt) h0

end Go.Proofs.YtacmiobhnfeflaaGreat
