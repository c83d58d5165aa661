import Derived.Test.YtacmiobhnfeflaaGreatWords
import Derived.StillTailTactics
import Derived.IntWalk
namespace Go.Proofs.YtacmiobhnfeflaaGreat
open Go.RowKit

/-- A mass with its moments. -/
structure Wt where
  m : Int
  a : Int
  b : Int
  c : Int
def Wt.Sm (t : Wt) : Prop := (0 ≤ t.m ∧ t.m ≤ 1152921504606846976) ∧ (-1152921504606846976 ≤ t.a ∧ t.a ≤ 1152921504606846976) ∧ (-1152921504606846976 ≤ t.b ∧ t.b ≤ 1152921504606846976) ∧ (-1152921504606846976 ≤ t.c ∧ t.c ≤ 1152921504606846976)
def Wt.add (t : Wt) (p : Pc) : Wt := ⟨t.m + p.m, t.a + p.m * (p.box.x0 + p.box.x1), t.b + p.m * (p.box.y0 + p.box.y1), t.c + p.m * (p.box.z0 + p.box.z1)⟩

theorem mul_bd (m s : Int) (h0 : 0 ≤ m) (h1 : m ≤ 16777216) (h2 : -262144 ≤ s) (h3 : s ≤ 262144) : -4398046511104 ≤ m * s ∧ m * s ≤ 4398046511104 := by
  have e1 := Int.mul_le_mul_of_nonneg_left h3 h0
  have e2 := Int.mul_le_mul_of_nonneg_left h2 h0
  omega

theorem Pc.box_bd {p : Pc} (hp : p.Ok) : (-262144 ≤ p.box.x0 + p.box.x1 ∧ p.box.x0 + p.box.x1 ≤ 262144) ∧ (-262144 ≤ p.box.y0 + p.box.y1 ∧ p.box.y0 + p.box.y1 ≤ 262144) ∧ (-262144 ≤ p.box.z0 + p.box.z1 ∧ p.box.z0 + p.box.z1 ≤ 262144) := by
  obtain ⟨x1, x2, y1, y2, z1, z2, l1, l2, w1, w2, h1, h2, m1, m2⟩ := hp
  unfold Pc.box
  dsimp only
  omega

set_option maxHeartbeats 4000000 in
set_option maxRecDepth 100000 in
theorem add_any (g : Nat) (t : Wt) (p : Pc) (hp : p.Ok) (ht : t.Sm) (w : World) (hW : Blk w g 49 #[.int .i64 t.m, .int .i64 t.a, .int .i64 t.b, .int .i64 t.c]) :
    Calls Tryz.prog 38 #[.pointer (some ⟨g, 0, none⟩), .agg #[.int .i64 p.x, .int .i64 p.y, .int .i64 p.z, .int .i64 p.l, .int .i64 p.w, .int .i64 p.h, .int .i64 p.m]] w fun e w' =>
      e = .returned (.tuple #[]) ∧ Blk w' g 49 #[.int .i64 (t.add p).m, .int .i64 (t.add p).a, .int .i64 (t.add p).b, .int .i64 (t.add p).c] ∧ w.grownBy w' (some g) := by
  have hlt := hW.lt
  go_enter Tryz.func38, Tryz.ntmps38
  go_wp2_with fail
  (with_reducible refine (boxOf_any p hp _).mono ?_)
  rintro e w1 ⟨rfl, hb⟩
  have hW1 : Blk w1 g 49 #[.int .i64 t.m, .int .i64 t.a, .int .i64 t.b, .int .i64 t.c] := (hW.alloc _).below hb (by simp; omega)
  have hP1 : Blk w1 w.heap.size 36 #[.int .i64 p.x, .int .i64 p.y, .int .i64 p.z, .int .i64 p.l, .int .i64 p.w, .int .i64 p.h, .int .i64 p.m] := (Blk.new w _ _).below hb (by simp)
  have hsz : w.heap.size < w1.heap.size := by have := hb.size; simp at this; omega
  go_wp2_with fail
  obtain ⟨w2, hw2⟩ : ∃ w2, w2 = w1.alloc (Obj.cells #[Value.int IntKind.i64 p.box.x0, Value.int IntKind.i64 p.box.y0, Value.int IntKind.i64 p.box.z0, Value.int IntKind.i64 p.box.x1, Value.int IntKind.i64 p.box.y1, Value.int IntKind.i64 p.box.z1] 66) := ⟨_, rfl⟩
  have hW2 : Blk w2 g 49 #[.int .i64 t.m, .int .i64 t.a, .int .i64 t.b, .int .i64 t.c] := hw2 ▸ hW1.alloc _
  have hP2 : Blk w2 w.heap.size 36 #[.int .i64 p.x, .int .i64 p.y, .int .i64 p.z, .int .i64 p.l, .int .i64 p.w, .int .i64 p.h, .int .i64 p.m] := hw2 ▸ hP1.alloc _
  have hB2 : Blk w2 w1.heap.size 66 #[Value.int IntKind.i64 p.box.x0, Value.int IntKind.i64 p.box.y0, Value.int IntKind.i64 p.box.z0, Value.int IntKind.i64 p.box.x1, Value.int IntKind.i64 p.box.y1, Value.int IntKind.i64 p.box.z1] := hw2 ▸ Blk.new w1 _ _
  have hG2 : w.grownBy w2 (some g) := hw2 ▸ only_alloc (only_of_below (((Below.refl _ _).alloc (Nat.le_refl _) _).trans (hb.mono (by simp))) _) _
  rw [← hw2]
  clear hw2 hW hW1 hP1 hb
  obtain ⟨b1, hb1⟩ : ∃ b1, b1 = w1.heap.size := ⟨_, rfl⟩
  rw [← hb1] at hB2 ⊢
  obtain ⟨b0, hb0⟩ : ∃ b0, b0 = w.heap.size := ⟨_, rfl⟩
  rw [← hb0] at hP2 ⊢
  have hg1 : g < b1 := by omega
  have hg0 : g < b0 := by omega
  clear hb1 hb0 hsz
  have c0 : w2.cell? ⟨g, 0, none⟩ = some (.int .i64 t.m) := by simpa using hW2.cell 0
  have f0 : w2.frozen? ⟨g, 0, none⟩ = false := hW2.frozen 0
  have c6 : w2.cell? ⟨b0, 6, none⟩ = some (.int .i64 p.m) := by simpa using hP2.cell 6
  have hm1 := hp.m1
  have hm2 := hp.m2
  obtain ⟨⟨t1, t2⟩, ⟨t3, t4⟩, ⟨t5, t6⟩, t7, t8⟩ := ht
  go_still_tail 9, (by kernel_rfl)
  change wpList _ _ _ _ _ w2.drew
  go_wp2_with fail
  obtain ⟨⟨x1, x2⟩, ⟨y1, y2⟩, z1, z2⟩ := Pc.box_bd hp
  have qx := mul_bd p.m _ hm1 hm2 x1 x2
  have qy := mul_bd p.m _ hm1 hm2 y1 y2
  have qz := mul_bd p.m _ hm1 hm2 z1 z2
  obtain ⟨w3, hw3⟩ : ∃ w3, w3 = (w2.setCell { block := g, off := 0 } (Value.int IntKind.i64 (t.m + p.m))).drew := ⟨_, rfl⟩
  have hW3 : Blk w3 g 49 #[.int .i64 (t.m + p.m), .int .i64 t.a, .int .i64 t.b, .int .i64 t.c] := hw3 ▸ Blk.drew (by simpa using hW2.set_ 0 (.int .i64 (t.m + p.m)))
  have hP3 := hP2.far (p := ⟨g, 0, none⟩) (by simp; omega) (.int .i64 (t.m + p.m))
  have hB3 := hB2.far (p := ⟨g, 0, none⟩) (by simp; omega) (.int .i64 (t.m + p.m))
  have hG3 : w.grownBy w3 (some g) := hw3 ▸ only_drew (only_setCell hG2 (p := ⟨g, 0, none⟩) (.inl rfl) _)
  replace hP3 : Blk w3 b0 36 _ := hw3 ▸ hP3.drew
  replace hB3 : Blk w3 b1 66 _ := hw3 ▸ hB3.drew
  rw [← hw3]
  clear hw3 hW2 hP2 hB2 hG2
  clear c0 f0 c6
  have c10 : w3.cell? ⟨g, 1, none⟩ = some (.int .i64 t.a) := by simpa using hW3.cell 1
  have f10 : w3.frozen? ⟨g, 1, none⟩ = false := hW3.frozen 1
  have d6 : w3.cell? ⟨b0, 6, none⟩ = some (.int .i64 p.m) := by simpa using hP3.cell 6
  have e0 : w3.cell? ⟨b1, 0, none⟩ = some (.int .i64 p.box.x0) := by simpa using hB3.cell 0
  have e1 : w3.cell? ⟨b1, 3, none⟩ = some (.int .i64 p.box.x1) := by simpa using hB3.cell 3
  have s1 : IntKind.i64.wrap (p.box.x0 + p.box.x1) = p.box.x0 + p.box.x1 := IntWalk.i64_in _ (by omega)
  have s2 : IntKind.i64.wrap (p.m * (p.box.x0 + p.box.x1)) = p.m * (p.box.x0 + p.box.x1) := IntWalk.i64_in _ (by omega)
  have s3 : IntKind.i64.wrap (t.a + p.m * (p.box.x0 + p.box.x1)) = t.a + p.m * (p.box.x0 + p.box.x1) := IntWalk.i64_in _ (by omega)
  refine wp_loop_rounds 4 ?_
  rw [rounds_succ]
  go_wp2_with fail
  go_still_tail 22, (by kernel_rfl)
  change wpList _ _ _ _ _ w3.drew
  go_wp2_with fail
  obtain ⟨w4, hw4⟩ : ∃ w4, w4 = (w3.setCell { block := g, off := 1 } (Value.int IntKind.i64 (t.a + p.m * (p.box.x0 + p.box.x1)))).drew := ⟨_, rfl⟩
  have hW4 : Blk w4 g 49 #[.int .i64 (t.m + p.m), .int .i64 (t.a + p.m * (p.box.x0 + p.box.x1)), .int .i64 t.b, .int .i64 t.c] := hw4 ▸ Blk.drew (by simpa using hW3.set_ 1 (.int .i64 (t.a + p.m * (p.box.x0 + p.box.x1))))
  have hP4 := hP3.far (p := ⟨g, 1, none⟩) (by simp; omega) (.int .i64 (t.a + p.m * (p.box.x0 + p.box.x1)))
  have hB4 := hB3.far (p := ⟨g, 1, none⟩) (by simp; omega) (.int .i64 (t.a + p.m * (p.box.x0 + p.box.x1)))
  have hG4 : w.grownBy w4 (some g) := hw4 ▸ only_drew (only_setCell hG3 (p := ⟨g, 1, none⟩) (.inl rfl) _)
  replace hP4 : Blk w4 b0 36 _ := hw4 ▸ hP4.drew
  replace hB4 : Blk w4 b1 66 _ := hw4 ▸ hB4.drew
  rw [← hw4]
  clear hw4 hW3 hP3 hB3 hG3
  clear c10 f10 d6 e0 e1 s1 s2 s3
  have c11 : w4.cell? ⟨g, 2, none⟩ = some (.int .i64 t.b) := by simpa using hW4.cell 2
  have f11 : w4.frozen? ⟨g, 2, none⟩ = false := hW4.frozen 2
  have d6 : w4.cell? ⟨b0, 6, none⟩ = some (.int .i64 p.m) := by simpa using hP4.cell 6
  have e0 : w4.cell? ⟨b1, 1, none⟩ = some (.int .i64 p.box.y0) := by simpa using hB4.cell 1
  have e1 : w4.cell? ⟨b1, 4, none⟩ = some (.int .i64 p.box.y1) := by simpa using hB4.cell 4
  have s1 : IntKind.i64.wrap (p.box.y0 + p.box.y1) = p.box.y0 + p.box.y1 := IntWalk.i64_in _ (by omega)
  have s2 : IntKind.i64.wrap (p.m * (p.box.y0 + p.box.y1)) = p.m * (p.box.y0 + p.box.y1) := IntWalk.i64_in _ (by omega)
  have s3 : IntKind.i64.wrap (t.b + p.m * (p.box.y0 + p.box.y1)) = t.b + p.m * (p.box.y0 + p.box.y1) := IntWalk.i64_in _ (by omega)
  rw [rounds_succ]
  go_wp2_with fail
  go_still_tail 22, (by kernel_rfl)
  change wpList _ _ _ _ _ w4.drew
  go_wp2_with fail
  obtain ⟨w5, hw5⟩ : ∃ w5, w5 = (w4.setCell { block := g, off := 2 } (Value.int IntKind.i64 (t.b + p.m * (p.box.y0 + p.box.y1)))).drew := ⟨_, rfl⟩
  have hW5 : Blk w5 g 49 #[.int .i64 (t.m + p.m), .int .i64 (t.a + p.m * (p.box.x0 + p.box.x1)), .int .i64 (t.b + p.m * (p.box.y0 + p.box.y1)), .int .i64 t.c] := hw5 ▸ Blk.drew (by simpa using hW4.set_ 2 (.int .i64 (t.b + p.m * (p.box.y0 + p.box.y1))))
  have hP5 := hP4.far (p := ⟨g, 2, none⟩) (by simp; omega) (.int .i64 (t.b + p.m * (p.box.y0 + p.box.y1)))
  have hB5 := hB4.far (p := ⟨g, 2, none⟩) (by simp; omega) (.int .i64 (t.b + p.m * (p.box.y0 + p.box.y1)))
  have hG5 : w.grownBy w5 (some g) := hw5 ▸ only_drew (only_setCell hG4 (p := ⟨g, 2, none⟩) (.inl rfl) _)
  replace hP5 : Blk w5 b0 36 _ := hw5 ▸ hP5.drew
  replace hB5 : Blk w5 b1 66 _ := hw5 ▸ hB5.drew
  rw [← hw5]
  clear hw5 hW4 hP4 hB4 hG4
  clear c11 f11 d6 e0 e1 s1 s2 s3
  have c12 : w5.cell? ⟨g, 3, none⟩ = some (.int .i64 t.c) := by simpa using hW5.cell 3
  have f12 : w5.frozen? ⟨g, 3, none⟩ = false := hW5.frozen 3
  have d6 : w5.cell? ⟨b0, 6, none⟩ = some (.int .i64 p.m) := by simpa using hP5.cell 6
  have e0 : w5.cell? ⟨b1, 2, none⟩ = some (.int .i64 p.box.z0) := by simpa using hB5.cell 2
  have e1 : w5.cell? ⟨b1, 5, none⟩ = some (.int .i64 p.box.z1) := by simpa using hB5.cell 5
  have s1 : IntKind.i64.wrap (p.box.z0 + p.box.z1) = p.box.z0 + p.box.z1 := IntWalk.i64_in _ (by omega)
  have s2 : IntKind.i64.wrap (p.m * (p.box.z0 + p.box.z1)) = p.m * (p.box.z0 + p.box.z1) := IntWalk.i64_in _ (by omega)
  have s3 : IntKind.i64.wrap (t.c + p.m * (p.box.z0 + p.box.z1)) = t.c + p.m * (p.box.z0 + p.box.z1) := IntWalk.i64_in _ (by omega)
  rw [rounds_succ]
  go_wp2_with fail
  go_still_tail 22, (by kernel_rfl)
  change wpList _ _ _ _ _ w5.drew
  go_wp2_with fail
  obtain ⟨w6, hw6⟩ : ∃ w6, w6 = (w5.setCell { block := g, off := 3 } (Value.int IntKind.i64 (t.c + p.m * (p.box.z0 + p.box.z1)))).drew := ⟨_, rfl⟩
  have hW6 : Blk w6 g 49 #[.int .i64 (t.m + p.m), .int .i64 (t.a + p.m * (p.box.x0 + p.box.x1)), .int .i64 (t.b + p.m * (p.box.y0 + p.box.y1)), .int .i64 (t.c + p.m * (p.box.z0 + p.box.z1))] := hw6 ▸ Blk.drew (by simpa using hW5.set_ 3 (.int .i64 (t.c + p.m * (p.box.z0 + p.box.z1))))
  have hP6 := hP5.far (p := ⟨g, 3, none⟩) (by simp; omega) (.int .i64 (t.c + p.m * (p.box.z0 + p.box.z1)))
  have hB6 := hB5.far (p := ⟨g, 3, none⟩) (by simp; omega) (.int .i64 (t.c + p.m * (p.box.z0 + p.box.z1)))
  have hG6 : w.grownBy w6 (some g) := hw6 ▸ only_drew (only_setCell hG5 (p := ⟨g, 3, none⟩) (.inl rfl) _)
  replace hP6 : Blk w6 b0 36 _ := hw6 ▸ hP6.drew
  replace hB6 : Blk w6 b1 66 _ := hw6 ▸ hB6.drew
  rw [← hw6]
  clear hw6 hW5 hP5 hB5 hG5
  clear c12 f12 d6 e0 e1 s1 s2 s3
  rw [rounds_succ]
  go_wp2_with fail
  go_end0
  exact ⟨rfl, hW6, hG6⟩

end Go.Proofs.YtacmiobhnfeflaaGreat
