import Derived.Test.YtacmiobhnfeflaaGreatCheck
namespace Go.Proofs.YtacmiobhnfeflaaGreat
open Go.RowKit

/-- The load of the chapter's examples. -/
def exL : Ld := ⟨⟨#[98, 111, 120]⟩, [⟨0, 0, 0, 2000, 1000, 1000, 4000⟩, ⟨0, 0, 1000, 1000, 1000, 500, 1000⟩], [⟨0, 0, 500, 10000⟩, ⟨2000, 1000, 500, 10000⟩], 300⟩
theorem exL_ok : exL.Ok := by
  refine ⟨⟨by decide, by decide, by decide⟩, by decide +kernel, by decide, ?_, ?_, by decide⟩
  · intro p hp
    rw [← Pc.okB_iff]
    revert p
    decide
  · decide

set_option maxRecDepth 100000 in
set_option maxHeartbeats 1000000 in
theorem example_any (w : World) :
    Calls Tryz.prog 23 #[] w fun e w' =>
      ∃ A E cap cap', e = .returned (.agg #[.string exL.name, .slice A exL.ps.length cap, .slice E exL.es.length cap', .int .i64 exL.fr]) ∧ LdAt w' w'.heap.size A E exL ∧ Below w.heap.size w w' := by
  go_enter Tryz.func23, Tryz.ntmps23
  go_wp2_with fail
  have hR := ((Blk.new w 25 #[Value.string { data := #[98, 111, 120] }, Value.slice (some { block := w.heap.size + 1, off := 0 }) 2 2, Value.slice (some { block := w.heap.size + 1 + 1, off := 0 }) 2 2, Value.int IntKind.i64 300]).alloc (Obj.cells #[Value.int .i64 0, Value.int .i64 0, Value.int .i64 0, Value.int .i64 2000, Value.int .i64 1000, Value.int .i64 1000, Value.int .i64 4000, Value.int .i64 0, Value.int .i64 0, Value.int .i64 1000, Value.int .i64 1000, Value.int .i64 1000, Value.int .i64 500, Value.int .i64 1000] 36)).alloc (Obj.cells #[Value.int .i64 0, Value.int .i64 0, Value.int .i64 500, Value.int .i64 10000, Value.int .i64 2000, Value.int .i64 1000, Value.int .i64 500, Value.int .i64 10000] 45)
  have hP := (Blk.new (w.alloc (Obj.cells #[Value.string { data := #[98, 111, 120] }, Value.slice (some { block := w.heap.size + 1, off := 0 }) 2 2, Value.slice (some { block := w.heap.size + 1 + 1, off := 0 }) 2 2, Value.int IntKind.i64 300] 25)) 36 #[Value.int .i64 0, Value.int .i64 0, Value.int .i64 0, Value.int .i64 2000, Value.int .i64 1000, Value.int .i64 1000, Value.int .i64 4000, Value.int .i64 0, Value.int .i64 0, Value.int .i64 1000, Value.int .i64 1000, Value.int .i64 1000, Value.int .i64 500, Value.int .i64 1000]).alloc (Obj.cells #[Value.int .i64 0, Value.int .i64 0, Value.int .i64 500, Value.int .i64 10000, Value.int .i64 2000, Value.int .i64 1000, Value.int .i64 500, Value.int .i64 10000] 45)
  have hE := Blk.new ((w.alloc (Obj.cells #[Value.string { data := #[98, 111, 120] }, Value.slice (some { block := w.heap.size + 1, off := 0 }) 2 2, Value.slice (some { block := w.heap.size + 1 + 1, off := 0 }) 2 2, Value.int IntKind.i64 300] 25)).alloc (Obj.cells #[Value.int .i64 0, Value.int .i64 0, Value.int .i64 0, Value.int .i64 2000, Value.int .i64 1000, Value.int .i64 1000, Value.int .i64 4000, Value.int .i64 0, Value.int .i64 0, Value.int .i64 1000, Value.int .i64 1000, Value.int .i64 1000, Value.int .i64 500, Value.int .i64 1000] 36)) 45 #[Value.int .i64 0, Value.int .i64 0, Value.int .i64 500, Value.int .i64 10000, Value.int .i64 2000, Value.int .i64 1000, Value.int .i64 500, Value.int .i64 10000]
  have hB : Below w.heap.size w (((w.alloc (Obj.cells #[Value.string { data := #[98, 111, 120] }, Value.slice (some { block := w.heap.size + 1, off := 0 }) 2 2, Value.slice (some { block := w.heap.size + 1 + 1, off := 0 }) 2 2, Value.int IntKind.i64 300] 25)).alloc (Obj.cells #[Value.int .i64 0, Value.int .i64 0, Value.int .i64 0, Value.int .i64 2000, Value.int .i64 1000, Value.int .i64 1000, Value.int .i64 4000, Value.int .i64 0, Value.int .i64 0, Value.int .i64 1000, Value.int .i64 1000, Value.int .i64 1000, Value.int .i64 500, Value.int .i64 1000] 36)).alloc (Obj.cells #[Value.int .i64 0, Value.int .i64 0, Value.int .i64 500, Value.int .i64 10000, Value.int .i64 2000, Value.int .i64 1000, Value.int .i64 500, Value.int .i64 10000] 45)) := (((Below.refl _ _).alloc (Nat.le_refl _) _).alloc (by simp) _).alloc (by simp; omega) _
  have hsz : (((w.alloc (Obj.cells #[Value.string { data := #[98, 111, 120] }, Value.slice (some { block := w.heap.size + 1, off := 0 }) 2 2, Value.slice (some { block := w.heap.size + 1 + 1, off := 0 }) 2 2, Value.int IntKind.i64 300] 25)).alloc (Obj.cells #[Value.int .i64 0, Value.int .i64 0, Value.int .i64 0, Value.int .i64 2000, Value.int .i64 1000, Value.int .i64 1000, Value.int .i64 4000, Value.int .i64 0, Value.int .i64 0, Value.int .i64 1000, Value.int .i64 1000, Value.int .i64 1000, Value.int .i64 500, Value.int .i64 1000] 36)).alloc (Obj.cells #[Value.int .i64 0, Value.int .i64 0, Value.int .i64 500, Value.int .i64 10000, Value.int .i64 2000, Value.int .i64 1000, Value.int .i64 500, Value.int .i64 10000] 45)).heap.size = w.heap.size + 3 := by simp
  rw [show (w.alloc (Obj.cells #[Value.string { data := #[98, 111, 120] }, Value.slice (some { block := w.heap.size + 1, off := 0 }) 2 2, Value.slice (some { block := w.heap.size + 1 + 1, off := 0 }) 2 2, Value.int IntKind.i64 300] 25)).heap.size = w.heap.size + 1 from by simp] at hP
  rw [show ((w.alloc (Obj.cells #[Value.string { data := #[98, 111, 120] }, Value.slice (some { block := w.heap.size + 1, off := 0 }) 2 2, Value.slice (some { block := w.heap.size + 1 + 1, off := 0 }) 2 2, Value.int IntKind.i64 300] 25)).alloc (Obj.cells #[Value.int .i64 0, Value.int .i64 0, Value.int .i64 0, Value.int .i64 2000, Value.int .i64 1000, Value.int .i64 1000, Value.int .i64 4000, Value.int .i64 0, Value.int .i64 0, Value.int .i64 1000, Value.int .i64 1000, Value.int .i64 1000, Value.int .i64 500, Value.int .i64 1000] 36)).heap.size = w.heap.size + 1 + 1 from by simp] at hE
  generalize ((w.alloc _).alloc _).alloc _ = w3 at *
  have r0 : w3.cell? ⟨w.heap.size, 0, none⟩ = some (Value.string { data := #[98, 111, 120] }) := by simpa using hR.cell 0
  have r1 : w3.cell? ⟨w.heap.size, 1, none⟩ = some (Value.slice (some { block := w.heap.size + 1, off := 0 }) 2 2) := by simpa using hR.cell 1
  have r2 : w3.cell? ⟨w.heap.size, 2, none⟩ = some (Value.slice (some { block := w.heap.size + 1 + 1, off := 0 }) 2 2) := by simpa using hR.cell 2
  have r3 : w3.cell? ⟨w.heap.size, 3, none⟩ = some (Value.int IntKind.i64 300) := by simpa using hR.cell 3
  refine bodyPost_ret (v := .agg #[Value.string { data := #[98, 111, 120] }, Value.slice (some { block := w.heap.size + 1, off := 0 }) 2 2, Value.slice (some { block := w.heap.size + 1 + 1, off := 0 }) 2 2, Value.int IntKind.i64 300]) (by simp [results, Tryz.results23, go_sem, r0, r1, r2, r3]) rfl ⟨_, _, 2, 2, rfl, ⟨?_, ?_⟩, hB⟩
  · intro i p hp
    match i, hp with
    | 0, hp =>
      cases hp
      exact ⟨w.heap.size + 1, 0, rfl, by omega, by simpa using hP.cell 0, by simpa using hP.cell 1, by simpa using hP.cell 2, by simpa using hP.cell 3, by simpa using hP.cell 4, by simpa using hP.cell 5, by simpa using hP.cell 6⟩
    | 1, hp =>
      cases hp
      exact ⟨w.heap.size + 1, 0, rfl, by omega, by simpa using hP.cell 7, by simpa using hP.cell 8, by simpa using hP.cell 9, by simpa using hP.cell 10, by simpa using hP.cell 11, by simpa using hP.cell 12, by simpa using hP.cell 13⟩
    | i + 2, hp => simp [exL] at hp
  · intro i p hp
    match i, hp with
    | 0, hp =>
      cases hp
      exact ⟨w.heap.size + 1 + 1, 0, rfl, by omega, by simpa using hE.cell 0, by simpa using hE.cell 1, by simpa using hE.cell 2, by simpa using hE.cell 3⟩
    | 1, hp =>
      cases hp
      exact ⟨w.heap.size + 1 + 1, 0, rfl, by omega, by simpa using hE.cell 4, by simpa using hE.cell 5, by simpa using hE.cell 6, by simpa using hE.cell 7⟩
    | i + 2, hp => simp [exL] at hp

end Go.Proofs.YtacmiobhnfeflaaGreat
