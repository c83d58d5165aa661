import Derived.Test.YtacmiobhnfeflaaGreatRig
import Derived.Test.YtacmiobhnfeflaaGreatStack
namespace Go.Proofs.YtacmiobhnfeflaaGreat
open Go.RowKit Go.Sort

def fdx (a b : Int) : Nat → Int
  | 0 => a | 1 => b | 2 => 0 | 3 => -b | 4 => -a | 5 => -b | 6 => 0 | _ => b
def fdy (a b : Int) : Nat → Int
  | 0 => 0 | 1 => b | 2 => a | 3 => b | 4 => 0 | 5 => -b | 6 => -a | _ => -b
/-- The points of the friction area. -/
def fricS (a b x y : Int) : List Pt := (List.range 8).map fun k => (x + fdx a b k, y + fdy a b k)
def fricA (n fr : Int) : Int := n * fr / 1000
def fricB (n fr : Int) : Int := fricA n fr * 707 / 1000
theorem fd8_0 (a b : Int) (W : World) : (Instr.index 127 (.agg #[.int .i64 a, .int .i64 0, .int .i64 b, .int .i64 b, .int .i64 0, .int .i64 a, .int .i64 (-b), .int .i64 b, .int .i64 (-a), .int .i64 0, .int .i64 (-b), .int .i64 (-b), .int .i64 0, .int .i64 (-a), .int .i64 b, .int .i64 (-b)]) (.int .i64 0)).run Tryz.prog W = .ok (.agg #[.int .i64 a, .int .i64 0]) W := by kernel_rfl
theorem fd8_1 (a b : Int) (W : World) : (Instr.index 127 (.agg #[.int .i64 a, .int .i64 0, .int .i64 b, .int .i64 b, .int .i64 0, .int .i64 a, .int .i64 (-b), .int .i64 b, .int .i64 (-a), .int .i64 0, .int .i64 (-b), .int .i64 (-b), .int .i64 0, .int .i64 (-a), .int .i64 b, .int .i64 (-b)]) (.int .i64 1)).run Tryz.prog W = .ok (.agg #[.int .i64 b, .int .i64 b]) W := by kernel_rfl
theorem fd8_2 (a b : Int) (W : World) : (Instr.index 127 (.agg #[.int .i64 a, .int .i64 0, .int .i64 b, .int .i64 b, .int .i64 0, .int .i64 a, .int .i64 (-b), .int .i64 b, .int .i64 (-a), .int .i64 0, .int .i64 (-b), .int .i64 (-b), .int .i64 0, .int .i64 (-a), .int .i64 b, .int .i64 (-b)]) (.int .i64 2)).run Tryz.prog W = .ok (.agg #[.int .i64 0, .int .i64 a]) W := by kernel_rfl
theorem fd8_3 (a b : Int) (W : World) : (Instr.index 127 (.agg #[.int .i64 a, .int .i64 0, .int .i64 b, .int .i64 b, .int .i64 0, .int .i64 a, .int .i64 (-b), .int .i64 b, .int .i64 (-a), .int .i64 0, .int .i64 (-b), .int .i64 (-b), .int .i64 0, .int .i64 (-a), .int .i64 b, .int .i64 (-b)]) (.int .i64 3)).run Tryz.prog W = .ok (.agg #[.int .i64 (-b), .int .i64 b]) W := by kernel_rfl
theorem fd8_4 (a b : Int) (W : World) : (Instr.index 127 (.agg #[.int .i64 a, .int .i64 0, .int .i64 b, .int .i64 b, .int .i64 0, .int .i64 a, .int .i64 (-b), .int .i64 b, .int .i64 (-a), .int .i64 0, .int .i64 (-b), .int .i64 (-b), .int .i64 0, .int .i64 (-a), .int .i64 b, .int .i64 (-b)]) (.int .i64 4)).run Tryz.prog W = .ok (.agg #[.int .i64 (-a), .int .i64 0]) W := by kernel_rfl
theorem fd8_5 (a b : Int) (W : World) : (Instr.index 127 (.agg #[.int .i64 a, .int .i64 0, .int .i64 b, .int .i64 b, .int .i64 0, .int .i64 a, .int .i64 (-b), .int .i64 b, .int .i64 (-a), .int .i64 0, .int .i64 (-b), .int .i64 (-b), .int .i64 0, .int .i64 (-a), .int .i64 b, .int .i64 (-b)]) (.int .i64 5)).run Tryz.prog W = .ok (.agg #[.int .i64 (-b), .int .i64 (-b)]) W := by kernel_rfl
theorem fd8_6 (a b : Int) (W : World) : (Instr.index 127 (.agg #[.int .i64 a, .int .i64 0, .int .i64 b, .int .i64 b, .int .i64 0, .int .i64 a, .int .i64 (-b), .int .i64 b, .int .i64 (-a), .int .i64 0, .int .i64 (-b), .int .i64 (-b), .int .i64 0, .int .i64 (-a), .int .i64 b, .int .i64 (-b)]) (.int .i64 6)).run Tryz.prog W = .ok (.agg #[.int .i64 0, .int .i64 (-a)]) W := by kernel_rfl
theorem fd8_7 (a b : Int) (W : World) : (Instr.index 127 (.agg #[.int .i64 a, .int .i64 0, .int .i64 b, .int .i64 b, .int .i64 0, .int .i64 a, .int .i64 (-b), .int .i64 b, .int .i64 (-a), .int .i64 0, .int .i64 (-b), .int .i64 (-b), .int .i64 0, .int .i64 (-a), .int .i64 b, .int .i64 (-b)]) (.int .i64 7)).run Tryz.prog W = .ok (.agg #[.int .i64 b, .int .i64 (-b)]) W := by kernel_rfl
theorem fd8 (a b : Int) (k : Nat) (hk : k < 8) (W : World) : (Instr.index 127 (.agg #[.int .i64 a, .int .i64 0, .int .i64 b, .int .i64 b, .int .i64 0, .int .i64 a, .int .i64 (-b), .int .i64 b, .int .i64 (-a), .int .i64 0, .int .i64 (-b), .int .i64 (-b), .int .i64 0, .int .i64 (-a), .int .i64 b, .int .i64 (-b)]) (.int .i64 (k : Int))).run Tryz.prog W = .ok (.agg #[.int .i64 (fdx a b k), .int .i64 (fdy a b k)]) W := by
  match k, hk with
  | 0, _ => exact fd8_0 a b W
  | 1, _ => exact fd8_1 a b W
  | 2, _ => exact fd8_2 a b W
  | 3, _ => exact fd8_3 a b W
  | 4, _ => exact fd8_4 a b W
  | 5, _ => exact fd8_5 a b W
  | 6, _ => exact fd8_6 a b W
  | 7, _ => exact fd8_7 a b W

set_option maxRecDepth 100000 in
set_option maxHeartbeats 4000000 in
theorem friction_any (g : Nat) (fr n x y : Int) (hf : 0 ≤ fr ∧ fr ≤ 1000) (hn : 0 ≤ n ∧ n ≤ 1099511627776) (hx : -1099511627776 ≤ x ∧ x ≤ 1099511627776) (hy : -1099511627776 ≤ y ∧ y ≤ 1099511627776) (w : World) (_ : g < w.heap.size) (hc : w.cell? ⟨g, 3, none⟩ = some (.int .i64 fr)) :
    Calls Tryz.prog 66 #[.pointer (some ⟨g, 0, none⟩), .int .i64 n, .int .i64 x, .int .i64 y] w fun e w' =>
      ∃ g' cap, e = .returned (.slice (some ⟨g', 0, none⟩) 8 cap) ∧ OwnP w' w.heap.size g' cap (fricS (fricA n fr) (fricB n fr) x y) ∧ Below w.heap.size w w' := by
  obtain ⟨i0, hi, hz0, hz1, hz2⟩ := info_parts info_pt
  obtain ⟨f1, f2⟩ := hf
  obtain ⟨n1, n2⟩ := hn
  have p0 : 0 ≤ n * fr := Int.mul_nonneg n1 f1
  have p1 : n * fr ≤ n * 1000 := Int.mul_le_mul_of_nonneg_left f2 n1
  have w1 : IntKind.i64.wrap (n * fr) = n * fr := IntWalk.i64_in _ (by omega)
  have a0 : 0 ≤ n * fr / 1000 := by omega
  have a1 : n * fr / 1000 ≤ 1099511627776 := by omega
  have w2 : IntKind.i64.wrap (n * fr / 1000 * 707) = n * fr / 1000 * 707 := IntWalk.i64_in _ (by omega)
  have HAB : RowKit.Hid (fricA n fr = n * fr / 1000 ∧ fricB n fr = n * fr / 1000 * 707 / 1000) := ⟨rfl, rfl⟩
  go_enter Tryz.func66, Tryz.ntmps66
  go_wp2_with fail
  have b0 : 0 ≤ n * fr / 1000 * 707 / 1000 := by omega
  have b1 : n * fr / 1000 * 707 / 1000 ≤ 1099511627776 := by omega
  clear w1 w2
  generalize n * fr / 1000 * 707 / 1000 = b at *
  generalize n * fr / 1000 = a at *
  clear p0 p1
  go_loopg [11, 52] 8 (fun m v c wr => ∃ k, RowKit.Hid (k + m = 8) ∧ c = .int .i64 (k : Nat) ∧ wr.ownsRow w.heap.size 57 2 v ((fricS a b x y).take k).length (flat ((fricS a b x y).take k)) ∧ Below w.heap.size w wr)
  case atStart => exact ⟨0, by show 0 + _ = _; omega, rfl, World.ownsRow_nil _ _ _ _, Below.refl _ _⟩
  case round =>
    obtain ⟨k, HK, rfl, hO, hB⟩ := hrel
    by_cases hlt : k < 8
    · have hix := fd8 a b k hlt
      have hdx : -1099511627776 ≤ fdx a b k ∧ fdx a b k ≤ 1099511627776 := by unfold fdx; split <;> omega
      have hdy : -1099511627776 ≤ fdy a b k ∧ fdy a b k ≤ 1099511627776 := by unfold fdy; split <;> omega
      have hel : RowKit.Hid ((fricS a b x y)[k]? = some (x + fdx a b k, y + fdy a b k)) := by
        show (fricS a b x y)[k]? = _
        unfold fricS
        rw [List.getElem?_map, List.getElem?_range hlt]
        rfl
      have hll : ((fricS a b x y).take k).length ≤ 8 := by rw [List.length_take]; unfold fricS; simp; omega
      generalize fdx a b k = p at *
      generalize fdy a b k = q at *
      obtain ⟨hp1, hp2⟩ := hdx
      obtain ⟨hq1, hq2⟩ := hdy
      have e1 : IntKind.i64.wrap (x + p) = x + p := IntWalk.i64_in _ (by omega)
      have e2 : IntKind.i64.wrap (y + q) = y + q := IntWalk.i64_in _ (by omega)
      have hm1 : ((fricS a b x y).take k).length + 1 ≤ maxLen := by unfold maxLen; omega
      have hm2 : (((fricS a b x y).take k).length + 1) * 16 ≤ 140737488355328 := by omega
      have hm3 : ∀ o o', w.heap.size ≤ ((wr.alloc o).alloc o').heap.size := fun o o' => by have := hB.size; simp; omega
      go_wp2_with (at_builtin; refine wpList_append_own _ rfl _ _ 77 rfl w.heap.size 57 i0 _ 2 16 Tryz.underlying77 hi hz0 hz1 hz2 rfl (by decide) _ _ _ rfl ((hO.alloc _).alloc _) ⟨wr.heap.size + 1, 0, none⟩ 1 1 [.int .i64 (x + p), .int .i64 (y + q)] rfl rfl ?c1 (encPt_one (x + p, y + q)) hm1 hm2 (hm3 _ _) ?_)
      case c1 =>
        have := cell_two_new (wr.alloc (.cells #[.int .i64 p, .int .i64 q] 126)) (x + p, y + q) 57
        simpa using this
      intro v' w4 hO4 hG4 _
      have hB4 : Below w.heap.size w w4 := ((hB.alloc hB.size _).alloc (by have := hB.size; simp; omega) _).grown hG4 (by have := hB.size; simp; omega) (fun g e => hO.block_ge e)
      go_wp2_with fail
      go_roundg (gk - 1)
      case measure => have := HK.out; omega
      case rel =>
        refine ⟨k + 1, by show k + 1 + (gk - 1) = 8; have := HK.out; omega, by go_num, ?_, hB4⟩
        rw [← take_succ_get hel.out, flat_append, List.length_append, List.length_take]
        exact hO4
    · obtain rfl : k = 8 := by have := HK.out; omega
      have hl8 : (fricS a b x y).length = 8 := by unfold fricS; simp
      have ht : (fricS a b x y).take 8 = fricS a b x y := List.take_of_length_le (by omega)
      rw [ht, hl8] at hO
      go_wp2_with fail
      go_ret
      have hAB := HAB.out
      rw [hAB.1, hAB.2]
      rcases hO.2 with ⟨_, h0⟩ | ⟨g', cap', cur, hv, hg', hrest⟩
      · omega
      · subst hv
        exact ⟨g', cap', rfl, ⟨by rw [hl8]; exact hO⟩, hB⟩

end Go.Proofs.YtacmiobhnfeflaaGreat
