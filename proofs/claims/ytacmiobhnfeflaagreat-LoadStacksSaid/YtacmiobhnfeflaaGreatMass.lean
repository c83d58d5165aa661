import Derived.Test.YtacmiobhnfeflaaGreatCheck
namespace Go.Proofs.YtacmiobhnfeflaaGreat
open Go.RowKit

def MassPost (L : Ld) (w : World) (e : Ending) (w' : World) : Prop :=
  ∃ m c : Int, e = .returned (.tuple #[.int .i64 m, .int .i64 c]) ∧ Below w.heap.size w w' ∧ ((¬ L.Ok ∧ m = 0 ∧ IsCheck L c) ∨ (L.Ok ∧ m = (totalS L.ps).m ∧ c = 0))

set_option maxRecDepth 100000 in
set_option maxHeartbeats 1000000 in
theorem mass_any (A E : Option Addr) (cap cap' : Nat) (L : Ld) (w : World) (hL : LdAt w w.heap.size A E L) :
    Calls Tryz.prog 24 #[.agg #[.string L.name, .slice A L.ps.length cap, .slice E L.es.length cap', .int .i64 L.fr]] w (MassPost L w) := by
  go_enter Tryz.func24, Tryz.ntmps24
  go_wp2_with fail
  have hB0 : Below w.heap.size w (w.alloc (Obj.cells #[Value.string L.name, Value.slice A L.ps.length cap, Value.slice E L.es.length cap', Value.int .i64 L.fr] 25)) := (Below.refl _ _).alloc (Nat.le_refl _) _
  (with_reducible refine (check_any A E cap cap' L _ ((hL.below hB0).more hB0.size)).mono ?_)
  rintro e w1 ⟨n, rfl, hC, hb1⟩
  have hBl := (Blk.new w 25 #[Value.string L.name, Value.slice A L.ps.length cap, Value.slice E L.es.length cap', Value.int .i64 L.fr]).below hb1 (by simp)
  have hB1 := hB0.trans (hb1.mono hB0.size)
  clear hb1 hB0
  by_cases hn : n = 0
  · subst hn
    have hOk := hC.zero.1 rfl
    clear hC
    obtain ⟨hl1, hl2, hl3⟩ := hOk.lens
    have HOK := Lib.hid hOk
    have HPS := Lib.hid hOk.ps
    clear hOk hl3
    have c1 : w1.cell? ⟨w.heap.size, 1, none⟩ = some (Value.slice A L.ps.length cap) := by simpa using hBl.cell 1
    go_wp2_with fail
    (with_reducible refine (total_any A cap L.ps (by omega) HPS.out _ ((hL.ps.below hB1).more hB1.size)).mono ?_)
    rintro e w2 ⟨rfl, hb2⟩
    have hfd := field_wt0 (totalS L.ps).m (totalS L.ps).a (totalS L.ps).b (totalS L.ps).c
    go_wp2_with fail
    go_ret2
    exact ⟨_, 0, rfl, hB1.trans (hb2.mono hB1.size), .inr ⟨HOK.out, rfl, rfl⟩⟩
  · have HC := Lib.hid hC
    have HNO : RowKit.Hid (¬ L.Ok) := fun h => hn (hC.zero.2 h)
    have hd : (n != 0) = true := by simp [hn]
    clear hC
    go_wp2_with fail
    go_ret2
    exact ⟨0, n, rfl, hB1, .inl ⟨HNO.out, rfl, HC.out⟩⟩

theorem idx3_0 (a b c : Int) (W : World) : (Instr.index 47 (.agg #[.int .i64 a, .int .i64 b, .int .i64 c]) (.int .i64 0)).run Tryz.prog W = .ok (.int .i64 a) W := by kernel_rfl
theorem idx3_1 (a b c : Int) (W : World) : (Instr.index 47 (.agg #[.int .i64 a, .int .i64 b, .int .i64 c]) (.int .i64 1)).run Tryz.prog W = .ok (.int .i64 b) W := by kernel_rfl
theorem idx3_2 (a b c : Int) (W : World) : (Instr.index 47 (.agg #[.int .i64 a, .int .i64 b, .int .i64 c]) (.int .i64 2)).run Tryz.prog W = .ok (.int .i64 c) W := by kernel_rfl
def cenS (t : Wt) (x : Int) : Int := (x + t.m) / (2 * t.m)
set_option maxRecDepth 100000 in
set_option maxHeartbeats 1000000 in
theorem centre_ok (A E : Option Addr) (cap cap' : Nat) (L : Ld) (hOk : L.Ok) (w : World) (hL : LdAt w w.heap.size A E L) :
    Calls Tryz.prog 25 #[.agg #[.string L.name, .slice A L.ps.length cap, .slice E L.es.length cap', .int .i64 L.fr]] w fun e w' =>
      e = .returned (.tuple #[.agg #[.int .i64 (cenS (totalS L.ps) (totalS L.ps).a), .int .i64 (cenS (totalS L.ps) (totalS L.ps).b), .int .i64 (cenS (totalS L.ps) (totalS L.ps).c)], .int .i64 0]) ∧ Below w.heap.size w w' := by
  have HOK := Lib.hid hOk
  have HPS := Lib.hid hOk.ps
  obtain ⟨hl1, hl2, hl3⟩ := hOk.lens
  have hsum := hOk.sum
  have hin := totalS_in L.ps hOk.ps L.ps.length (Nat.le_refl _)
  rw [List.take_length] at hin
  obtain ⟨_, ⟨a1, a2⟩, ⟨b1, b2⟩, c1, c2⟩ := hin
  clear hOk
  go_enter Tryz.func25, Tryz.ntmps25
  go_wp2_with fail
  have hB0 : Below w.heap.size w ((w.alloc (Obj.cells #[Value.string L.name, Value.slice A L.ps.length cap, Value.slice E L.es.length cap', Value.int .i64 L.fr] 25)).alloc (Obj.cells #[Value.int .i64 0, Value.int .i64 0, Value.int .i64 0] 47)) := ((Below.refl _ _).alloc (Nat.le_refl _) _).alloc (by simp) _
  (with_reducible refine (check_any A E cap cap' L _ ((hL.below hB0).more hB0.size)).mono ?_)
  rintro e w1 ⟨n, rfl, hC, hb1⟩
  obtain rfl : n = 0 := hC.zero.2 HOK.out
  have hBl := ((Blk.new w 25 #[Value.string L.name, Value.slice A L.ps.length cap, Value.slice E L.es.length cap', Value.int .i64 L.fr]).alloc (Obj.cells #[Value.int .i64 0, Value.int .i64 0, Value.int .i64 0] 47)).below hb1 (by simp; omega)
  have hBc := (Blk.new (w.alloc (Obj.cells #[Value.string L.name, Value.slice A L.ps.length cap, Value.slice E L.es.length cap', Value.int .i64 L.fr] 25)) 47 #[Value.int .i64 0, Value.int .i64 0, Value.int .i64 0]).below hb1 (by simp)
  rw [show (w.alloc (Obj.cells #[Value.string L.name, Value.slice A L.ps.length cap, Value.slice E L.es.length cap', Value.int .i64 L.fr] 25)).heap.size = w.heap.size + 1 from by simp] at hBc
  have hB1 := hB0.trans (hb1.mono hB0.size)
  clear hb1 hB0 hC
  have k1 : w1.cell? ⟨w.heap.size, 1, none⟩ = some (Value.slice A L.ps.length cap) := by simpa using hBl.cell 1
  go_wp2_with fail
  (with_reducible refine (total_any A cap L.ps (by omega) HPS.out _ ((hL.ps.below hB1).more hB1.size)).mono ?_)
  rintro e w2 ⟨rfl, hb2⟩
  have hB2 := hB1.trans (hb2.mono hB1.size)
  have hc2 := hBc.below hb2 hBc.lt
  clear k1 hBl hBc hb2 hB1
  generalize hT : totalS L.ps = t at *
  obtain ⟨m, a, b, c⟩ := t
  have HT := Lib.hid hT
  clear hT
  dsimp only at *
  go_wp2_with fail
  have hW := Blk.new w2 49 #[Value.int .i64 m, Value.int .i64 a, Value.int .i64 b, Value.int .i64 c]
  have hC := hc2.alloc (Obj.cells #[Value.int .i64 m, Value.int .i64 a, Value.int .i64 b, Value.int .i64 c] 49)
  have hB := hB2.alloc hB2.size (Obj.cells #[Value.int .i64 m, Value.int .i64 a, Value.int .i64 b, Value.int .i64 c] 49)
  have hlt := hc2.lt
  have hb2 : w.heap.size ≤ w.heap.size + 1 := by omega
  generalize w2.alloc _ = w3 at *
  generalize hb5 : w2.heap.size = b5 at *
  generalize hb22 : w.heap.size + 1 = b2 at *
  have hne : b2 < b5 := hlt
  have hm1 : 1 ≤ m := hsum.1
  have hm2 : m ≤ 16777216 := hsum.2
  clear hc2 hB2 hsum hb22 hb5 hlt
  have i0 := idx3_0 a b c
  have i1 := idx3_1 a b c
  have i2 := idx3_2 a b c
  refine wp_loop_rounds 4 ?_
  rw [rounds_succ]
  have d0 : w3.cell? ⟨b5, 0, none⟩ = some (.int .i64 m) := by simpa using hW.cell 0
  have f0 : w3.frozen? ⟨b2, 0, none⟩ = false := hC.frozen 0
  have q0 : w3.cell? ⟨b2, 0, none⟩ = some (.int .i64 0) := by simpa using hC.cell 0
  go_wp2_with fail
  (with_reducible refine (div_any (a + m) (2 * m) (by omega) (by omega) (by omega) (by omega) _).mono ?_)
  rintro e w' ⟨rfl, rfl⟩
  go_wp2_with fail
  have hW' := hW.far (p := ⟨b2, 0, none⟩) (by simp; omega) (.int .i64 (cenS ⟨m, a, b, c⟩ a))
  have hC' := hC.set_ 0 (.int .i64 (cenS ⟨m, a, b, c⟩ a))
  have hB' := hB.setCell (p := ⟨b2, 0, none⟩) hb2 (.int .i64 (cenS ⟨m, a, b, c⟩ a))
  simp only [List.setIfInBounds_toArray, List.set_cons_zero] at hC'
  obtain ⟨w4, hw4⟩ : ∃ w', w' = w3.setCell ⟨b2, 0, none⟩ (.int .i64 ((a + m) / (2 * m))) := ⟨_, rfl⟩
  rw [← hw4]
  replace hW : Blk w4 b5 _ _ := hw4 ▸ hW'
  replace hC : Blk w4 b2 47 #[Value.int .i64 (cenS ⟨m, a, b, c⟩ a), Value.int .i64 0, Value.int .i64 0] := hw4 ▸ hC'
  replace hB : Below w.heap.size w w4 := hw4 ▸ hB'
  clear hw4 hW' hC' hB' d0 f0 q0
  rw [rounds_succ]
  have d0 : w4.cell? ⟨b5, 0, none⟩ = some (.int .i64 m) := by simpa using hW.cell 0
  have f0 : w4.frozen? ⟨b2, 1, none⟩ = false := hC.frozen 1
  have q0 : w4.cell? ⟨b2, 1, none⟩ = some (.int .i64 0) := by simpa using hC.cell 1
  go_wp2_with fail
  (with_reducible refine (div_any (b + m) (2 * m) (by omega) (by omega) (by omega) (by omega) _).mono ?_)
  rintro e w' ⟨rfl, rfl⟩
  go_wp2_with fail
  have hW' := hW.far (p := ⟨b2, 1, none⟩) (by simp; omega) (.int .i64 (cenS ⟨m, a, b, c⟩ b))
  have hC' := hC.set_ 1 (.int .i64 (cenS ⟨m, a, b, c⟩ b))
  have hB' := hB.setCell (p := ⟨b2, 1, none⟩) hb2 (.int .i64 (cenS ⟨m, a, b, c⟩ b))
  simp only [List.setIfInBounds_toArray, List.set_cons_zero, List.set_cons_succ] at hC'
  obtain ⟨w5, hw5⟩ : ∃ w', w' = w4.setCell ⟨b2, 1, none⟩ (.int .i64 ((b + m) / (2 * m))) := ⟨_, rfl⟩
  rw [← hw5]
  replace hW : Blk w5 b5 _ _ := hw5 ▸ hW'
  replace hC : Blk w5 b2 47 #[Value.int .i64 (cenS ⟨m, a, b, c⟩ a), Value.int .i64 (cenS ⟨m, a, b, c⟩ b), Value.int .i64 0] := hw5 ▸ hC'
  replace hB : Below w.heap.size w w5 := hw5 ▸ hB'
  clear hw5 hW' hC' hB' d0 f0 q0
  rw [rounds_succ]
  have d0 : w5.cell? ⟨b5, 0, none⟩ = some (.int .i64 m) := by simpa using hW.cell 0
  have f0 : w5.frozen? ⟨b2, 2, none⟩ = false := hC.frozen 2
  have q0 : w5.cell? ⟨b2, 2, none⟩ = some (.int .i64 0) := by simpa using hC.cell 2
  go_wp2_with fail
  (with_reducible refine (div_any (c + m) (2 * m) (by omega) (by omega) (by omega) (by omega) _).mono ?_)
  rintro e w' ⟨rfl, rfl⟩
  go_wp2_with fail
  have hW' := hW.far (p := ⟨b2, 2, none⟩) (by simp; omega) (.int .i64 (cenS ⟨m, a, b, c⟩ c))
  have hC' := hC.set_ 2 (.int .i64 (cenS ⟨m, a, b, c⟩ c))
  have hB' := hB.setCell (p := ⟨b2, 2, none⟩) hb2 (.int .i64 (cenS ⟨m, a, b, c⟩ c))
  simp only [List.setIfInBounds_toArray, List.set_cons_zero, List.set_cons_succ] at hC'
  obtain ⟨w6, hw6⟩ : ∃ w', w' = w5.setCell ⟨b2, 2, none⟩ (.int .i64 ((c + m) / (2 * m))) := ⟨_, rfl⟩
  rw [← hw6]
  replace hW : Blk w6 b5 _ _ := hw6 ▸ hW'
  replace hC : Blk w6 b2 47 #[Value.int .i64 (cenS ⟨m, a, b, c⟩ a), Value.int .i64 (cenS ⟨m, a, b, c⟩ b), Value.int .i64 (cenS ⟨m, a, b, c⟩ c)] := hw6 ▸ hC'
  replace hB : Below w.heap.size w w6 := hw6 ▸ hB'
  clear hw6 hW' hC' hB' d0 f0 q0
  rw [rounds_succ]
  have q0 : w6.cell? ⟨b2, 0, none⟩ = some (.int .i64 (cenS ⟨m, a, b, c⟩ a)) := by simpa using hC.cell 0
  have q1 : w6.cell? ⟨b2, 1, none⟩ = some (.int .i64 (cenS ⟨m, a, b, c⟩ b)) := by simpa using hC.cell 1
  have q2 : w6.cell? ⟨b2, 2, none⟩ = some (.int .i64 (cenS ⟨m, a, b, c⟩ c)) := by simpa using hC.cell 2
  have f0 := hC.frozen 0
  have f1 := hC.frozen 1
  have f2 := hC.frozen 2
  go_wp2_with fail
  have hC' := ((hC.set_ 0 (.int .i64 (cenS ⟨m, a, b, c⟩ a))).set_ 1 (.int .i64 (cenS ⟨m, a, b, c⟩ b))).set_ 2 (.int .i64 (cenS ⟨m, a, b, c⟩ c))
  have hB' := ((hB.setCell (p := ⟨b2, 0, none⟩) hb2 (.int .i64 (cenS ⟨m, a, b, c⟩ a))).setCell (p := ⟨b2, 1, none⟩) hb2 (.int .i64 (cenS ⟨m, a, b, c⟩ b))).setCell (p := ⟨b2, 2, none⟩) hb2 (.int .i64 (cenS ⟨m, a, b, c⟩ c))
  clear q0 q1 q2 f0 f1 f2 hC hB
  generalize ((w6.setCell _ _).setCell _ _).setCell _ _ = w7 at *
  have q0 : w7.cell? ⟨b2, 0, none⟩ = some (.int .i64 (cenS ⟨m, a, b, c⟩ a)) := by simpa using hC'.cell 0
  have q1 : w7.cell? ⟨b2, 1, none⟩ = some (.int .i64 (cenS ⟨m, a, b, c⟩ b)) := by simpa using hC'.cell 1
  have q2 : w7.cell? ⟨b2, 2, none⟩ = some (.int .i64 (cenS ⟨m, a, b, c⟩ c)) := by simpa using hC'.cell 2
  exact bodyPost_ret (v := .tuple #[.agg #[.int .i64 (cenS ⟨m, a, b, c⟩ a), .int .i64 (cenS ⟨m, a, b, c⟩ b), .int .i64 (cenS ⟨m, a, b, c⟩ c)], .int .i64 0]) (by simp [results, Tryz.results25, go_sem, q0, q1, q2]) rfl ⟨by rw [HT.out], hB'⟩

end Go.Proofs.YtacmiobhnfeflaaGreat
