import Derived.Test.YtacmiobhnfeflaaGreatProg
import Derived.WalkKit
import Derived.WalkSpells
import Derived.WalkLawsBesides
import Derived.Deep.QuietTactic
import Derived.BigQuiet
import Derived.Deep.Draws
import Derived.Lib.Hide
namespace Go.Proofs.YtacmiobhnfeflaaGreat
open Go.RowKit

/-- A box: where it begins and where it ends, axis by axis. -/
structure Bx where
  x0 : Int
  y0 : Int
  z0 : Int
  x1 : Int
  y1 : Int
  z1 : Int

/-- A piece of a load. -/
structure Pc where
  x : Int
  y : Int
  z : Int
  l : Int
  w : Int
  h : Int
  m : Int

instance : Inhabited Pc := ⟨⟨0, 0, 0, 0, 0, 0, 0⟩⟩
instance : Inhabited Bx := ⟨⟨0, 0, 0, 0, 0, 0⟩⟩

/-- The bounds that a valid piece keeps. -/
structure Pc.Ok (p : Pc) : Prop where
  x1 : -131072 ≤ p.x
  x2 : p.x ≤ 131072
  y1 : -131072 ≤ p.y
  y2 : p.y ≤ 131072
  z1 : 0 ≤ p.z
  z2 : p.z ≤ 131072
  l1 : 1 ≤ p.l
  l2 : p.l ≤ 131072 - p.x
  w1 : 1 ≤ p.w
  w2 : p.w ≤ 131072 - p.y
  h1 : 1 ≤ p.h
  h2 : p.h ≤ 131072 - p.z
  m1 : 0 ≤ p.m
  m2 : p.m ≤ 16777216

def Pc.box (p : Pc) : Bx := ⟨p.x, p.y, p.z, p.x + p.l, p.y + p.w, p.z + p.h⟩

theorem quiet_same {P : Program} {f : FuncId} {args : Array Value} {w : World} {v : Value}
    (h : Calls P f args w fun e w' => e = .returned v ∧ w = w') : Calls P f args w fun e w'' => e = .returned v ∧ ∃ m, w'' = w.drewN m :=
  h.mono fun _ _ ⟨he, hm⟩ => ⟨he, 0, hm.symm⟩
theorem quiet_left {P : Program} {f : FuncId} {args : Array Value} {w : World} {n : Nat} {v : Value}
    (h : Calls P f args (w.drewN n) fun e w' => e = .returned v ∧ w.drewN n = w') : Calls P f args (w.drewN n) fun e w'' => e = .returned v ∧ ∃ m, w'' = w.drewN m :=
  h.mono fun _ _ ⟨he, hm⟩ => ⟨he, n, hm.symm⟩
theorem quiet_add_left {P : Program} {f : FuncId} {args : Array Value} {w : World} {a n : Nat} {v : Value}
    (h : Calls P f args (w.drewN (a + n)) fun e w' => e = .returned v ∧ w.drewN (a + n) = w') :
    Calls P f args (w.drewN (a + n)) fun e w'' => e = .returned v ∧ ∃ m, w'' = w.drewN (a + m) :=
  h.mono fun _ _ ⟨he, hm⟩ => ⟨he, n, hm.symm⟩

theorem ret_bool {a b : Bool} (h : a = b) : Ending.returned (.bool a) = .returned (.bool b) := by rw [h]
theorem ret_int {k : IntKind} {a b : Int} (h : a = b) : Ending.returned (.int k a) = .returned (.int k b) := by rw [h]

theorem bcell {W w1 : World} (hb : Below W.heap.size W w1) : (∀ b o, b < W.heap.size → w1.cell? ⟨b, o, none⟩ = W.cell? ⟨b, o, none⟩) ∧ (∀ b o, b < W.heap.size → w1.frozen? ⟨b, o, none⟩ = W.frozen? ⟨b, o, none⟩) :=
  ⟨fun b o h => hb.cell (p := ⟨b, o, none⟩) h, fun b o h => hb.frozen (p := ⟨b, o, none⟩) h⟩

set_option maxHeartbeats 400000 in
theorem between_any (x lo hi : Int) (w : World) :
    Calls Tryz.prog 19 #[.int .i64 x, .int .i64 lo, .int .i64 hi] w fun e w' => e = .returned (.bool (decide (lo ≤ x ∧ x ≤ hi))) ∧ w = w' := by
  go_enter Tryz.func19, Tryz.ntmps19
  go_wp2
  all_goals
    go_ret
    refine ⟨?_, rfl⟩
    apply ret_bool
    first | (simp; done) | (simp; omega)

theorem between_yes (x lo hi : Int) (h : lo ≤ x ∧ x ≤ hi) (w : World) :
    Calls Tryz.prog 19 #[.int .i64 x, .int .i64 lo, .int .i64 hi] w fun e w' => e = .returned (.bool true) ∧ w = w' :=
  (between_any x lo hi w).mono fun e w' ⟨he, hw⟩ => ⟨by rw [he, decide_eq_true h], hw⟩
theorem between_no (x lo hi : Int) (h : ¬ (lo ≤ x ∧ x ≤ hi)) (w : World) :
    Calls Tryz.prog 19 #[.int .i64 x, .int .i64 lo, .int .i64 hi] w fun e w' => e = .returned (.bool false) ∧ w = w' :=
  (between_any x lo hi w).mono fun e w' ⟨he, hw⟩ => ⟨by rw [he, decide_eq_false h], hw⟩

set_option maxHeartbeats 400000 in
theorem div_any (n d : Int) (hd : 1 ≤ d) (h1 : -4611686018427387904 ≤ n) (h2 : n ≤ 4611686018427387904) (hd2 : d ≤ 4611686018427387904) (w : World) :
    Calls Tryz.prog 39 #[.int .i64 n, .int .i64 d] w fun e w' => e = .returned (.int .i64 (n / d)) ∧ w = w' := by
  have ht : n.tdiv d = if 0 ≤ n.tmod d then n / d else n / d + 1 := by
    have e1 := Int.tdiv_eq_ediv (a := n) (b := d)
    have e2 := Int.tmod_eq_emod (a := n) (b := d)
    have e3 : 0 ≤ n % d := Int.emod_nonneg n (by omega)
    have e4 : n % d < d := Int.emod_lt_of_pos n (by omega)
    have e5 : n % d = 0 ↔ d ∣ n := ⟨Int.dvd_of_emod_eq_zero, Int.emod_eq_zero_of_dvd⟩
    have e6 : d.sign = 1 := Int.sign_eq_one_of_pos (by omega)
    have e7 : (d.natAbs : Int) = d := by omega
    rw [e6] at e1
    by_cases h : 0 ≤ n ∨ d ∣ n
    · rw [if_pos h] at e1 e2
      rw [if_pos (by omega)]
      omega
    · rw [if_neg h] at e1 e2
      have : n % d ≠ 0 := fun hh => h (.inr (e5.1 hh))
      rw [if_neg (by omega)]
      omega
  have hb1 : -4611686018427387904 ≤ n / d := by
    have := Int.ediv_le_ediv (c := d) (by omega) h1
    have h3 : -4611686018427387904 ≤ -4611686018427387904 / d := by
      refine (Int.le_ediv_iff_mul_le (by omega)).2 ?_
      have := Int.mul_le_mul_of_nonneg_left hd (show (0:Int) ≤ 4611686018427387904 by decide)
      omega
    omega
  have hb2 : n / d ≤ 4611686018427387904 := by
    refine Int.ediv_le_of_le_mul (by omega) ?_
    have := Int.mul_le_mul_of_nonneg_left hd (show (0:Int) ≤ 4611686018427387904 by decide)
    omega
  have H := Lib.hid ht
  clear ht
  go_enter Tryz.func39, Tryz.ntmps39
  go_wp2
  · have hneg : n.tmod d < 0 := by assumption
    have ht := H.out
    rw [if_neg (by omega)] at ht
    go_ret
    refine ⟨ret_int ?_, rfl⟩
    show wrap64 (n.tdiv d - 1) = _
    rw [ht]
    unfold wrap64
    omega
  · have hneg : 0 ≤ n.tmod d := by assumption
    have ht := H.out
    rw [if_pos (by omega)] at ht
    go_ret
    exact ⟨ret_int ht, rfl⟩

set_option maxHeartbeats 400000 in
theorem boxOf_any (p : Pc) (hp : p.Ok) (w : World) :
    Calls Tryz.prog 31 #[.agg #[.int .i64 p.x, .int .i64 p.y, .int .i64 p.z, .int .i64 p.l, .int .i64 p.w, .int .i64 p.h, .int .i64 p.m]] w fun e w' =>
      e = .returned (.agg #[.int .i64 p.box.x0, .int .i64 p.box.y0, .int .i64 p.box.z0, .int .i64 p.box.x1, .int .i64 p.box.y1, .int .i64 p.box.z1]) ∧ Below w.heap.size w w' := by
  have h1 := hp.x1
  have h2 := hp.x2
  have h3 := hp.y1
  have h4 := hp.y2
  have h5 := hp.z1
  have h6 := hp.z2
  have h7 := hp.l1
  have h8 := hp.l2
  have h9 := hp.w1
  have h10 := hp.w2
  have h11 := hp.h1
  have h12 := hp.h2
  clear hp
  go_enter Tryz.func31, Tryz.ntmps31
  go_wp2
  exact bodyPost_ret (v := .agg #[.int .i64 p.box.x0, .int .i64 p.box.y0, .int .i64 p.box.z0, .int .i64 p.box.x1, .int .i64 p.box.y1, .int .i64 p.box.z1]) (by simp [results, Tryz.results31, go_sem, Pc.box]) rfl ⟨rfl, ((Below.refl _ _).alloc (Nat.le_refl _) _).alloc (by simp) _⟩

end Go.Proofs.YtacmiobhnfeflaaGreat
