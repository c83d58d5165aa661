import Derived.Test.YtacmiobhnfeflaaGreatAround2
import Derived.Test.YtacmiobhnfeflaaGreatFric
namespace Go.Proofs.YtacmiobhnfeflaaGreat
open Go.RowKit Go.Sort

/-- The reach without lashings. -/
def reachS (L : Ld) (s : Shk) : List Pt := cornersS (fricS (fricA ((totalS L.ps).m * s.z / 1000) L.fr) (fricB ((totalS L.ps).m * s.z / 1000) L.fr) 0 0)
theorem fricS_sm {a b : Int} (a0 : 0 ≤ a) (a1 : a ≤ 33554432) (b0 : 0 ≤ b) (b1 : b ≤ 33554432) : ∀ p ∈ fricS a b 0 0, PtSm p := by
  intro p hp
  unfold fricS at hp
  obtain ⟨k, _, rfl⟩ := List.mem_map.1 hp
  have h1 : -33554432 ≤ fdx a b k ∧ fdx a b k ≤ 33554432 := by unfold fdx; split <;> omega
  have h2 : -33554432 ≤ fdy a b k ∧ fdy a b k ≤ 33554432 := by unfold fdy; split <;> omega
  refine ⟨?_, ?_, ?_, ?_⟩ <;> dsimp only <;> omega
theorem fricS_len (a b x y : Int) : (fricS a b x y).length = 8 := by simp [fricS]

set_option maxRecDepth 100000 in
set_option maxHeartbeats 2000000 in
theorem reach_any (g : Nat) (A E : Option Addr) (cap cap' : Nat) (L : Ld) (hOk : L.Ok) (s : Shk) (hs : s.Ok) (w : World) (hR : RigIn w g A E cap cap' L) :
    Calls Tryz.prog 42 #[.pointer (some ⟨g, 0, none⟩), .agg #[.int .i64 s.x, .int .i64 s.y, .int .i64 s.z], .func (.func 43) #[] #[]] w fun e w' =>
      ∃ g' cap1, e = .returned (.slice (some ⟨g', 0, none⟩) (reachS L s).length cap1) ∧ OwnP w' w.heap.size g' cap1 (reachS L s) ∧ Below w.heap.size w w' := by
  have hsum := hOk.sum
  have hfr := hOk.fr
  have hz := hs.z
  clear hOk hs
  have HRS : RowKit.Hid (reachS L s = cornersS (fricS (fricA ((totalS L.ps).m * s.z / 1000) L.fr) (fricB ((totalS L.ps).m * s.z / 1000) L.fr) 0 0)) := rfl
  have hR0 : Blk w g 84 _ := hR
  have hglt := hR0.lt
  have HR := Lib.hid hR0
  clear hR0 hR
  generalize hm : (totalS L.ps).m = m at *
  have HM := Lib.hid hm
  clear hm
  have p0 : 0 ≤ m * s.z := Int.mul_nonneg (by omega) hz.1
  have p1 : m * s.z ≤ m * 2000 := Int.mul_le_mul_of_nonneg_left hz.2 (by omega)
  have e1 : IntKind.i64.wrap (m * s.z) = m * s.z := IntWalk.i64_in _ (by omega)
  have hS := (Blk.new w 61 #[.int .i64 s.x, .int .i64 s.y, .int .i64 s.z])
  have hR1 := HR.out.alloc (Obj.cells #[.int .i64 s.x, .int .i64 s.y, .int .i64 s.z] 61)
  have hB1 : Below w.heap.size w (w.alloc (Obj.cells #[.int .i64 s.x, .int .i64 s.y, .int .i64 s.z] 61)) := (Below.refl _ _).alloc (Nat.le_refl _) _
  go_enter Tryz.func42, Tryz.ntmps42
  go_wp2_with fail
  generalize w.alloc _ = w1 at *
  have c0 : w1.cell? ⟨w.heap.size, 2, none⟩ = some (.int .i64 s.z) := by simpa using hS.cell 2
  have c1 : w1.cell? ⟨g, 4, none⟩ = some (.int .i64 m) := by simpa using hR1.cell 4
  refine wp_region_still_tail 9 (by kernel_rfl) (by kernel_rfl) ?_
  simp only [List.take_succ_cons, List.take_zero, List.drop_succ_cons, List.drop_zero]
  repeat still_step
  try refine wpStill_nil ?_
  change wpList _ _ _ _ _ w1.drew
  have hR2 := hR1.drew
  have hB2 : Below w.heap.size w w1.drew := below_drewN hB1 1
  generalize w1.drew = w2 at *
  clear c0 c1 e1
  have hn : 0 ≤ m * s.z / 1000 ∧ m * s.z / 1000 ≤ 33554432 := by omega
  have hq := Int.ediv_nonneg p0 (by decide : (0 : Int) ≤ 1000)
  have et : (m * s.z).tdiv 1000 = m * s.z / 1000 := Int.tdiv_eq_ediv_of_nonneg p0
  go_wp2_with fail
  have c3 : w2.cell? ⟨g, 3, none⟩ = some (.int .i64 L.fr) := by simpa using hR2.cell 3
  have ha : 0 ≤ fricA (m * s.z / 1000) L.fr ∧ fricA (m * s.z / 1000) L.fr ≤ 33554432 := by
    have q0 := Int.mul_nonneg hn.1 hfr.1
    have q1 := Int.mul_le_mul_of_nonneg_left hfr.2 hn.1
    unfold fricA
    omega
  have hb : 0 ≤ fricB (m * s.z / 1000) L.fr ∧ fricB (m * s.z / 1000) L.fr ≤ 33554432 := by unfold fricB; omega
  have hFs := fricS_sm ha.1 ha.2 hb.1 hb.2
  (with_reducible refine (friction_any g L.fr (m * s.z / 1000) 0 0 hfr ⟨hn.1, by omega⟩ (by omega) (by omega) _ hR2.lt c3).mono ?_)
  rintro e w3 ⟨gf, capf, rfl, hF, hb3⟩
  have hlF := fricS_len (fricA (m * s.z / 1000) L.fr) (fricB (m * s.z / 1000) L.fr) 0 0
  generalize fricS (fricA (m * s.z / 1000) L.fr) (fricB (m * s.z / 1000) L.fr) 0 0 = F at *
  have hR3 := hR2.below hb3 hR2.lt
  have hB3 := hB2.trans (hb3.mono hB2.size)
  have hA := fun W hW => around_any gf 0 capf F (by intro e; rw [e] at hlF; simp at hlF) (by omega) hFs W hW
  rw [hlF] at hA
  have HA := Lib.hid hA
  have HLF := Lib.hid hlF
  clear hA hlF c3 et hq hn ha hb hR2 hb3 p0 p1
  go_wp2_with fail
  (with_reducible refine (HA.out _ (PtsAt.of_own hF.own)).mono ?_)
  rintro e w4 ⟨gr, capr, rfl, hO, hb4⟩
  have hR4 := hR3.below hb4 hR3.lt
  have hB4 := hB3.trans (hb4.mono hB3.size)
  have hO4 := hO.more (base' := w.heap.size) (Nat.le_trans hB3.size hO.ge)
  have c5 : w4.cell? ⟨g, 5, none⟩ = some (.slice none 0 0) := by simpa using hR4.cell 5
  go_wp2_with fail
  refine wp_loop_rounds 1 ?_
  rw [rounds_succ]
  go_wp2_with fail
  go_ret
  refine ⟨gr, capr, ?_, ?_, hB4⟩
  · rw [HRS.out]; rfl
  · rw [HRS.out]; exact hO4

end Go.Proofs.YtacmiobhnfeflaaGreat
