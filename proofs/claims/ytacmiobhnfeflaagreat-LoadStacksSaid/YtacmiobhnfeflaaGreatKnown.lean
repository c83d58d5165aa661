import Derived.Test.YtacmiobhnfeflaaGreatHold
import Derived.Test.YtacmiobhnfeflaaGreatExample
namespace Go.Proofs.YtacmiobhnfeflaaGreat
open Go.RowKit Go.Sort

theorem leP_antisymm {a b : Pt} (h1 : leP a b = true) (h2 : leP b a = true) : a = b := by
  unfold leP at h1 h2
  have k1 := of_decide_eq_true h1
  have k2 := of_decide_eq_true h2
  exact Prod.ext (by omega) (by omega)
theorem sortP_is {ps l : List Pt} (hp : l.Perm ps) (hs : l.Pairwise fun a b => leP a b = true) : sortP ps = l := by
  have h := List.pairwise_mergeSort (le := leP) (fun a b c h1 h2 => by
    unfold leP at *
    simp only [decide_eq_true_eq] at *
    omega) (fun a b => by
    unfold leP
    simp only [Bool.or_eq_true, decide_eq_true_eq]
    omega) ps
  exact ((List.mergeSort_perm ps leP).trans hp.symm).eq_of_pairwise (fun a b _ _ h1 h2 => leP_antisymm h1 h2) h hs
def exF : List Pt := fricS 1500 1060 0 0
def exO : List Pt := [(-1500, 0), (-1060, -1060), (-1060, 1060), (0, -1500), (0, 1500), (1060, -1060), (1060, 1060), (1500, 0)]
def exH : List Pt := [(-1500, 0), (-1060, -1060), (0, -1500), (1060, -1060), (1500, 0), (1060, 1060), (0, 1500), (-1060, 1060)]
theorem ex_sort : sortP exF = exO := sortP_is (by decide +kernel) (by decide +kernel)
theorem ex_corners : cornersS exF = exH := by
  unfold cornersS
  rw [ex_sort]
  decide +kernel
theorem ex_tot : totalS exL.ps = ⟨5000, 9000000, 5000000, 6500000⟩ := by rfl
theorem ex_reach (x : Int) : reachS exL ⟨x, 0, 1000⟩ = exH := by
  have : reachS exL ⟨x, 0, 1000⟩ = cornersS exF := by
    unfold reachS
    rw [ex_tot]
    rfl
  rw [this, ex_corners]
theorem ex_need301 : needS 5000 ⟨301, 0, 1000⟩ = (1505, 0) := by decide +kernel
theorem ex_need300 : needS 5000 ⟨300, 0, 1000⟩ = (1500, 0) := by decide +kernel
theorem ex_con (x : Int) (h1 : 0 ≤ x) (h2 : x ≤ 2000) : ConOk exH x 0 1 := by
  refine ⟨by omega, by omega, by omega, by omega, by omega, by omega, ?_⟩
  decide
theorem ex_dir : ∃ k : Nat, (normsS exH)[k]? = some (1060, -440) ∧ provesS exH (1505, 0) (1060, -440) = true ∧ ∀ (j : Nat) (x : Pt), j < k → (normsS exH)[j]? = some x → provesS exH (1505, 0) x = false := by
  refine ⟨3, by decide +kernel, by decide +kernel, fun j x hj hx => ?_⟩
  have h : ∀ j, j < 3 → ∀ y ∈ (normsS exH)[j]?, provesS exH (1505, 0) y = false := by decide +kernel
  exact h j hj x hx

theorem hold301 (A E : Option Addr) (cap cap' : Nat) (w : World) (hL : LdAt w w.heap.size A E exL) :
    Calls Tryz.prog 26 #[.agg #[.string exL.name, .slice A exL.ps.length cap, .slice E exL.es.length cap', .int .i64 exL.fr], .slice none 0 0, .agg #[.int .i64 301, .int .i64 0, .int .i64 1000]] w fun e w' =>
      e = .returned (.tuple #[.agg #[.int .i64 1060, .int .i64 (-440)], .int .i64 20]) ∧ Below w.heap.size w w' := by
  have h := hold_any A E cap cap' exL exL_ok ⟨301, 0, 1000⟩ ⟨by decide, by decide, by decide⟩ (by rw [ex_reach, ex_tot, ex_need301]; exact ex_con 1505 (by decide) (by decide)) (by rw [ex_reach]; decide) (1060, -440) (by rw [ex_tot, ex_need301]; exact ⟨by decide, by decide, by decide, by decide⟩)
    (fun _ => by rw [ex_reach, ex_tot, ex_need301]; exact ex_dir) w hL
  refine h.mono ?_
  rintro e w' ⟨⟨h1, _⟩ | ⟨_, h2⟩, hb⟩
  · rw [ex_reach, ex_tot, ex_need301] at h1
    exact absurd h1 (by decide +kernel)
  · exact ⟨h2, hb⟩
theorem hold300 (A E : Option Addr) (cap cap' : Nat) (w : World) (hL : LdAt w w.heap.size A E exL) :
    Calls Tryz.prog 26 #[.agg #[.string exL.name, .slice A exL.ps.length cap, .slice E exL.es.length cap', .int .i64 exL.fr], .slice none 0 0, .agg #[.int .i64 300, .int .i64 0, .int .i64 1000]] w fun e w' =>
      e = .returned (.tuple #[.agg #[.int .i64 0, .int .i64 0], .int .i64 0]) ∧ Below w.heap.size w w' := by
  have hc : containsS exH 1500 0 1 = true := by decide +kernel
  have h := hold_any A E cap cap' exL exL_ok ⟨300, 0, 1000⟩ ⟨by decide, by decide, by decide⟩ (by rw [ex_reach, ex_tot, ex_need300]; exact ex_con 1500 (by decide) (by decide)) (by rw [ex_reach]; decide) (0, 0) (by rw [ex_tot, ex_need300]; exact ⟨by decide, by decide, by decide, by decide⟩)
    (fun hf => by rw [ex_reach, ex_tot, ex_need300] at hf; rw [hc] at hf; cases hf) w hL
  refine h.mono ?_
  rintro e w' ⟨⟨_, h1⟩ | ⟨h2, _⟩, hb⟩
  · exact ⟨h1, hb⟩
  · rw [ex_reach, ex_tot, ex_need300] at h2
    rw [hc] at h2
    cases h2
theorem mass_ex (A E : Option Addr) (cap cap' : Nat) (w : World) (hL : LdAt w w.heap.size A E exL) :
    Calls Tryz.prog 24 #[.agg #[.string exL.name, .slice A exL.ps.length cap, .slice E exL.es.length cap', .int .i64 exL.fr]] w fun e w' =>
      e = .returned (.tuple #[.int .i64 5000, .int .i64 0]) ∧ Below w.heap.size w w' := by
  refine (mass_any A E cap cap' exL w hL).mono ?_
  rintro e w' ⟨m, c, rfl, hb, h | ⟨_, rfl, rfl⟩⟩
  · exact absurd exL_ok h.1
  · exact ⟨by rw [ex_tot], hb⟩
theorem centre_ex (A E : Option Addr) (cap cap' : Nat) (w : World) (hL : LdAt w w.heap.size A E exL) :
    Calls Tryz.prog 25 #[.agg #[.string exL.name, .slice A exL.ps.length cap, .slice E exL.es.length cap', .int .i64 exL.fr]] w fun e w' =>
      e = .returned (.tuple #[.agg #[.int .i64 900, .int .i64 500, .int .i64 650], .int .i64 0]) ∧ Below w.heap.size w w' := by
  refine (centre_ok A E cap cap' exL exL_ok w hL).mono ?_
  rintro e w' ⟨rfl, hb⟩
  refine ⟨?_, hb⟩
  rw [ex_tot]
  rfl
theorem eqArr (W : World) : (binOp .eql 47 (.agg #[.int .i64 900, .int .i64 500, .int .i64 650]) (.agg #[.int .i64 900, .int .i64 500, .int .i64 650])).run Tryz.prog W = .ok (.bool true) W := by kernel_rfl
theorem gdArr (op : BinOp) (x y : Operand) (a b : Array Value) (W : World) : (eqGuard op 47 x y (.agg a) (.agg b)).run Tryz.prog W = .ok () W :=
  run_eqGuard_agg W op _ x y _ _ (by kernel_rfl)

set_option maxRecDepth 100000 in
set_option maxHeartbeats 2000000 in
theorem known_any (w : World) : Calls Tryz.prog 7 #[] w fun e w' => e = .returned (.bool true) ∧ Below w.heap.size w w' := by
  have q1 := eqArr
  have q2 := gdArr
  have q3 := fun W => eqPt (1060, -440) (1060, -440) W
  have q4 := gdPt
  simp only [decide_true] at q3
  go_enter Tryz.func7, Tryz.ntmps7
  go_wp2_with fail
  (with_reducible refine (example_any _).mono ?_)
  rintro e w1 ⟨A, E, cap, cap', rfl, hL, hB1⟩
  go_wp2_with fail
  have hN := Blk.new w1 25 #[Value.string exL.name, Value.slice A exL.ps.length cap, Value.slice E exL.es.length cap', Value.int .i64 exL.fr]
  have hB2 := hB1.alloc hB1.size (Obj.cells #[Value.string exL.name, Value.slice A exL.ps.length cap, Value.slice E exL.es.length cap', Value.int .i64 exL.fr] 25)
  have hL2 := (hL.below ((Below.refl _ w1).alloc (Nat.le_refl _) (Obj.cells #[Value.string exL.name, Value.slice A exL.ps.length cap, Value.slice E exL.es.length cap', Value.int .i64 exL.fr] 25))).more (B' := (w1.alloc (Obj.cells #[Value.string exL.name, Value.slice A exL.ps.length cap, Value.slice E exL.es.length cap', Value.int .i64 exL.fr] 25)).heap.size) (by simp)
  generalize w1.alloc _ = w2 at *
  generalize w1.heap.size = B at *
  have hBlt := hN.lt
  (with_reducible refine (mass_ex A E cap cap' _ hL2).mono ?_)
  rintro e w3 ⟨rfl, hb3⟩
  have hB3 := hB2.trans (hb3.mono hB2.size)
  have hL3 := (hL2.below hb3).more hb3.size
  have hN3 := hN.below hb3 hN.lt
  have c0 : w3.cell? ⟨B, 0, none⟩ = some (Value.string exL.name) := by simpa using hN3.cell 0
  have c1 : w3.cell? ⟨B, 1, none⟩ = some (Value.slice A exL.ps.length cap) := by simpa using hN3.cell 1
  have c2 : w3.cell? ⟨B, 2, none⟩ = some (Value.slice E exL.es.length cap') := by simpa using hN3.cell 2
  have c3 : w3.cell? ⟨B, 3, none⟩ = some (Value.int .i64 exL.fr) := by simpa using hN3.cell 3
  go_wp2_with fail
  (with_reducible refine (centre_ex A E cap cap' _ hL3).mono ?_)
  rintro e w4 ⟨rfl, hb4⟩
  have hB4 := hB3.trans (hb4.mono hB3.size)
  have hL4 := (hL3.below hb4).more hb4.size
  have hN4 := hN3.below hb4 hN3.lt
  clear c0 c1 c2 c3
  have c0 : w4.cell? ⟨B, 0, none⟩ = some (Value.string exL.name) := by simpa using hN4.cell 0
  have c1 : w4.cell? ⟨B, 1, none⟩ = some (Value.slice A exL.ps.length cap) := by simpa using hN4.cell 1
  have c2 : w4.cell? ⟨B, 2, none⟩ = some (Value.slice E exL.es.length cap') := by simpa using hN4.cell 2
  have c3 : w4.cell? ⟨B, 3, none⟩ = some (Value.int .i64 exL.fr) := by simpa using hN4.cell 3
  have hlt4 := hN4.lt
  go_wp2_with fail
  have hC5 := Blk.new w4 47 #[Value.int .i64 900, Value.int .i64 500, Value.int .i64 650]
  have hB5 := hB4.alloc hB4.size (Obj.cells #[Value.int .i64 900, Value.int .i64 500, Value.int .i64 650] 47)
  have hN5 := hN4.alloc (Obj.cells #[Value.int .i64 900, Value.int .i64 500, Value.int .i64 650] 47)
  have hL5 := (hL4.below ((Below.refl _ w4).alloc (Nat.le_refl _) (Obj.cells #[Value.int .i64 900, Value.int .i64 500, Value.int .i64 650] 47))).more (B' := (w4.alloc (Obj.cells #[Value.int .i64 900, Value.int .i64 500, Value.int .i64 650] 47)).heap.size) (by simp)
  clear c0 c1 c2 c3
  generalize w4.alloc _ = w5 at *
  generalize w4.heap.size = Bc at *
  (with_reducible refine (hold301 A E cap cap' _ hL5).mono ?_)
  rintro e w6 ⟨rfl, hb6⟩
  have hB6 := hB5.trans (hb6.mono hB5.size)
  have hL6 := (hL5.below hb6).more hb6.size
  have hN6 := hN5.below hb6 hN5.lt
  have hC6 := hC5.below hb6 hC5.lt
  have c0 : w6.cell? ⟨B, 0, none⟩ = some (Value.string exL.name) := by simpa using hN6.cell 0
  have c1 : w6.cell? ⟨B, 1, none⟩ = some (Value.slice A exL.ps.length cap) := by simpa using hN6.cell 1
  have c2 : w6.cell? ⟨B, 2, none⟩ = some (Value.slice E exL.es.length cap') := by simpa using hN6.cell 2
  have c3 : w6.cell? ⟨B, 3, none⟩ = some (Value.int .i64 exL.fr) := by simpa using hN6.cell 3
  have hlt6 := hN6.lt
  go_wp2_with fail
  have hD7 := Blk.new w6 57 #[Value.int .i64 1060, Value.int .i64 (-440)]
  have hB7 := hB6.alloc hB6.size (Obj.cells #[Value.int .i64 1060, Value.int .i64 (-440)] 57)
  have hN7 := hN6.alloc (Obj.cells #[Value.int .i64 1060, Value.int .i64 (-440)] 57)
  have hC7 := hC6.alloc (Obj.cells #[Value.int .i64 1060, Value.int .i64 (-440)] 57)
  have hL7 := (hL6.below ((Below.refl _ w6).alloc (Nat.le_refl _) (Obj.cells #[Value.int .i64 1060, Value.int .i64 (-440)] 57))).more (B' := (w6.alloc (Obj.cells #[Value.int .i64 1060, Value.int .i64 (-440)] 57)).heap.size) (by simp)
  clear c0 c1 c2 c3
  generalize w6.alloc _ = w7 at *
  generalize w6.heap.size = Bd at *
  (with_reducible refine (hold300 A E cap cap' _ hL7).mono ?_)
  rintro e w8 ⟨rfl, hb8⟩
  have hB8 := hB7.trans (hb8.mono hB7.size)
  have hC8 := hC7.below hb8 hC7.lt
  have hD8 := hD7.below hb8 hD7.lt
  have k0 : w8.cell? ⟨Bc, 0, none⟩ = some (Value.int .i64 900) := by simpa using hC8.cell 0
  have k1 : w8.cell? ⟨Bc, 1, none⟩ = some (Value.int .i64 500) := by simpa using hC8.cell 1
  have k2 : w8.cell? ⟨Bc, 2, none⟩ = some (Value.int .i64 650) := by simpa using hC8.cell 2
  have d0 : w8.cell? ⟨Bd, 0, none⟩ = some (Value.int .i64 1060) := by simpa using hD8.cell 0
  have d1 : w8.cell? ⟨Bd, 1, none⟩ = some (Value.int .i64 (-440)) := by simpa using hD8.cell 1
  have l1 := hC8.lt
  have l2 := hD8.lt
  clear hN hL hL2 hL3 hN3 hL4 hN4 hL5 hN5 hL6 hN6 hC5 hC6 hC7 hD7 hN7 hL7 hb3 hb4 hb6 hb8
  go_wp2_with fail
  go_ret
  exact ⟨rfl, hB8.alloc hB8.size _⟩

end Go.Proofs.YtacmiobhnfeflaaGreat
