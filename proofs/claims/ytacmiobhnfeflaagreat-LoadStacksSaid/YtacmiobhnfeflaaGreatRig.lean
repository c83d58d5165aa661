import Derived.Test.YtacmiobhnfeflaaGreatMass
import Derived.Test.YtacmiobhnfeflaaGreatNeed
import Derived.Test.YtacmiobhnfeflaaGreatUnder
namespace Go.Proofs.YtacmiobhnfeflaaGreat
open Go.RowKit

/-- A rig without lashings: the load, its mass, no pulls. -/
def RigIn (w : World) (g : Nat) (A E : Option Addr) (cap cap' : Nat) (L : Ld) : Prop :=
  Blk w g 84 #[.string L.name, .slice A L.ps.length cap, .slice E L.es.length cap', .int .i64 L.fr, .int .i64 (totalS L.ps).m, .slice none 0 0]

theorem keep4 {w1 W : World} {b : Nat} {v0 v1 v2 v3 : Value} (h : Below w1.heap.size w1 W ∧ b < W.heap.size ∧ W.cell? ⟨b, 0, none⟩ = some v0 ∧ W.cell? ⟨b, 1, none⟩ = some v1 ∧ W.cell? ⟨b, 2, none⟩ = some v2 ∧ W.cell? ⟨b, 3, none⟩ = some v3) (o : Obj) :
    Below w1.heap.size w1 (W.alloc o) ∧ b < (W.alloc o).heap.size ∧ (W.alloc o).cell? ⟨b, 0, none⟩ = some v0 ∧ (W.alloc o).cell? ⟨b, 1, none⟩ = some v1 ∧ (W.alloc o).cell? ⟨b, 2, none⟩ = some v2 ∧ (W.alloc o).cell? ⟨b, 3, none⟩ = some v3 := by
  obtain ⟨h1, h2, c0, c1, c2, c3⟩ := h
  exact ⟨h1.alloc h1.size _, by simp; omega, (World.cell?_alloc_lt W o _ h2).trans c0, (World.cell?_alloc_lt W o _ h2).trans c1, (World.cell?_alloc_lt W o _ h2).trans c2, (World.cell?_alloc_lt W o _ h2).trans c3⟩

set_option maxRecDepth 100000 in
set_option maxHeartbeats 1000000 in
theorem newRig_ok (A E : Option Addr) (cap cap' : Nat) (L : Ld) (hOk : L.Ok) (w : World) (hL : LdAt w w.heap.size A E L) :
    Calls Tryz.prog 40 #[.agg #[.string L.name, .slice A L.ps.length cap, .slice E L.es.length cap', .int .i64 L.fr], .slice none 0 0] w fun e w' =>
      ∃ g, e = .returned (.tuple #[.pointer (some ⟨g, 0, none⟩), .int .i64 0]) ∧ w.heap.size ≤ g ∧ RigIn w' g A E cap cap' L ∧ Below w.heap.size w w' := by
  have HOK := Lib.hid hOk
  have HPS := Lib.hid hOk.ps
  obtain ⟨hl1, hl2, hl3⟩ := hOk.lens
  clear hOk
  go_enter Tryz.func40, Tryz.ntmps40
  go_wp2_with fail
  have hB0 : Below w.heap.size w (w.alloc (Obj.cells #[Value.string L.name, Value.slice A L.ps.length cap, Value.slice E L.es.length cap', Value.int .i64 L.fr] 25)) := (Below.refl _ _).alloc (Nat.le_refl _) _
  (with_reducible refine (check_any A E cap cap' L _ ((hL.below hB0).more hB0.size)).mono ?_)
  rintro e w1 ⟨n, rfl, hC, hb1⟩
  obtain rfl : n = 0 := hC.zero.2 HOK.out
  have hBl := (Blk.new w 25 #[Value.string L.name, Value.slice A L.ps.length cap, Value.slice E L.es.length cap', Value.int .i64 L.fr]).below hb1 (by simp)
  have hB1 := hB0.trans (hb1.mono hB0.size)
  clear hb1 hB0 hC
  generalize hb : w.heap.size = b at *
  have c0 : w1.cell? ⟨b, 0, none⟩ = some (Value.string L.name) := by simpa using hBl.cell 0
  have c1 : w1.cell? ⟨b, 1, none⟩ = some (Value.slice A L.ps.length cap) := by simpa using hBl.cell 1
  have c2 : w1.cell? ⟨b, 2, none⟩ = some (Value.slice E L.es.length cap') := by simpa using hBl.cell 2
  have c3 : w1.cell? ⟨b, 3, none⟩ = some (Value.int .i64 L.fr) := by simpa using hBl.cell 3
  have hlt0 := hBl.lt
  have hBr : Below w1.heap.size w1 w1.drew := below_drewN (Below.refl _ _) 1
  have hsz1 : b ≤ w1.heap.size := by have := hB1.size; omega
  have HP : RowKit.Hid (∀ W, Below w1.heap.size w1 W → PcsAt W W.heap.size A L.ps) := fun W hW => (((hL.ps.below hB1).more hsz1).below hW).more hW.size
  have hfd := field_wt0 (totalS L.ps).m (totalS L.ps).a (totalS L.ps).b (totalS L.ps).c
  go_wp2_with fail
  go_region_held3 (fun w' => Below w1.heap.size w1 w' ∧ b < w'.heap.size ∧ w'.cell? ⟨b, 0, none⟩ = some (Value.string L.name) ∧ w'.cell? ⟨b, 1, none⟩ = some (Value.slice A L.ps.length cap) ∧ w'.cell? ⟨b, 2, none⟩ = some (Value.slice E L.es.length cap') ∧ w'.cell? ⟨b, 3, none⟩ = some (Value.int .i64 L.fr)) (first | (simp [*]; done) | exact keep4 (by assumption) _)
    (first
      | (go_at_call 22; (with_reducible refine (total_any A cap L.ps (by omega) HPS.out _ (HP.out _ (by assumption))).mono ?_); rintro e w' ⟨rfl, hb2⟩; have hbc := fun o => (bcell hb2).1 b o (by assumption); have hlt2 : b < w'.heap.size := Nat.lt_of_lt_of_le (by assumption) hb2.size; have hB2 := below_next (a := w1) (by assumption) hb2))
  have hW : RigIn _ _ A E cap cap' L := Blk.new w' 84 #[.string L.name, .slice A L.ps.length cap, .slice E L.es.length cap', .int .i64 L.fr, .int .i64 (totalS L.ps).m, .slice none 0 0]
  have hB3 : Below b w _ := (hB1.trans (hB2.mono hsz1)).alloc (Nat.le_trans hsz1 hB2.size) (Obj.cells #[.string L.name, .slice A L.ps.length cap, .slice E L.es.length cap', .int .i64 L.fr, .int .i64 (totalS L.ps).m, .slice none 0 0] 84)
  have hge : b ≤ w'.heap.size := Nat.le_trans hsz1 hB2.size
  generalize w'.alloc _ = w3 at *
  go_wp2_with fail
  refine wp_loop_rounds 1 ?_
  rw [rounds_succ]
  go_wp2_with fail
  go_ret2
  exact ⟨_, rfl, by omega, hW, by rw [hb]; exact hB3⟩

end Go.Proofs.YtacmiobhnfeflaaGreat
