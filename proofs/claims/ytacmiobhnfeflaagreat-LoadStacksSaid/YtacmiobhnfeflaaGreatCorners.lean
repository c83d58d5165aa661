import Derived.Test.YtacmiobhnfeflaaGreatStack
import Derived.StillTailTactics
namespace Go.Proofs.YtacmiobhnfeflaaGreat
open Go.RowKit Go.Sort Go.Shelf

/-- The hull of points: the lower side, and then the upper one. -/
def cornersS (ps : List Pt) : List Pt :=
  let s := compP (sortP ps)
  if s.length < 2 then s else (stackR s).tail.reverse ++ (stackR s.reverse).tail.reverse

theorem popR_ne (x : Pt) (l : List Pt) (h : l ≠ []) : popR x l ≠ [] := by
  fun_induction popR x l with
  | case1 => exact absurd rfl h
  | case2 a => simp
  | case3 b a l h ih => exact ih (by simp)
  | case4 b a l h => simp
theorem stackR_two (ps : List Pt) (h : 2 ≤ ps.length) : 2 ≤ (stackR ps).length := by
  have h0 : ps ≠ [] := by intro e; rw [e] at h; simp at h
  rw [← List.dropLast_concat_getLast h0, stackR_snoc]
  have h1 : ps.dropLast ≠ [] := by intro e; have := congrArg List.length e; simp at this; omega
  have h2 : stackR ps.dropLast ≠ [] := by
    rw [← List.dropLast_concat_getLast h1, stackR_snoc]
    simp
  have := popR_ne (ps.getLast h0) _ h2
  have := List.length_pos_iff.2 this
  simp
  omega
theorem compP_sub (ps : List Pt) : ∀ p ∈ compP ps, p ∈ ps := by
  intro p hp
  unfold compP Lib.compact Lib.compactUpTo at hp
  obtain ⟨j, hj, rfl⟩ := List.mem_map.1 hp
  have := List.mem_range.1 (List.mem_filter.1 hj).1
  simp [this]
theorem compP_len (ps : List Pt) : (compP ps).length ≤ ps.length := by
  unfold compP Lib.compact Lib.compactUpTo
  rw [List.length_map]
  exact Nat.le_trans (List.length_filter_le _ _) (by simp)
theorem compP_ne (ps : List Pt) (h : ps ≠ []) : compP ps ≠ [] := by
  obtain ⟨n, hn⟩ : ∃ n, ps.length = n + 1 := ⟨ps.length - 1, by have := List.length_pos_iff.2 h; omega⟩
  unfold compP Lib.compact Lib.compactUpTo
  rw [hn, List.range_succ_eq_map]
  simp [Lib.keeps]
theorem sortP_sub (ps : List Pt) (p : Pt) : p ∈ sortP ps ↔ p ∈ ps := (List.mergeSort_perm ps leP).mem_iff
theorem sortP_len (ps : List Pt) : (sortP ps).length = ps.length := List.length_mergeSort ps
theorem cornersS_sub (ps : List Pt) : ∀ p ∈ cornersS ps, p ∈ ps := by
  intro p hp
  unfold cornersS at hp
  have hc : ∀ q, q ∈ compP (sortP ps) → q ∈ ps := fun q hq => (sortP_sub ps q).1 (compP_sub _ q hq)
  dsimp only at hp
  split at hp
  · exact hc p hp
  · rcases List.mem_append.1 hp with h | h
    · exact hc p (stackR_sub _ p (List.mem_of_mem_tail (List.mem_reverse.1 h)))
    · exact hc p (List.mem_reverse.1 (stackR_sub _ p (List.mem_of_mem_tail (List.mem_reverse.1 h))))
theorem cornersS_ne (ps : List Pt) (h : ps ≠ []) : cornersS ps ≠ [] := by
  have hs : compP (sortP ps) ≠ [] := compP_ne _ (by intro e; have := congrArg List.length e; rw [sortP_len] at this; exact h (List.eq_nil_of_length_eq_zero this))
  unfold cornersS
  dsimp only
  split
  · exact hs
  · have := stackR_two (compP (sortP ps)) (by omega)
    intro e
    have := congrArg List.length e
    simp at this
    omega
theorem cornersS_len (ps : List Pt) : (cornersS ps).length ≤ 2 * ps.length := by
  have h1 := compP_len (sortP ps)
  rw [sortP_len] at h1
  unfold cornersS
  dsimp only
  split
  · omega
  · have h2 := stackR_len (compP (sortP ps))
    have h3 := stackR_len (compP (sortP ps)).reverse
    simp at h3 ⊢
    omega

/-- The stack of values, met in a plain walk. -/
theorem stack_any (Bs g cap : Nat) (ps : List Pt) (hs : ∀ p ∈ ps, PtSm p) (hlen : ps.length ≤ 1000000) (w : World) (base : Nat) (hO : OwnP w base g cap ps) (hBs : Bs < w.heap.size) (hc : w.cell? ⟨Bs, 0, none⟩ = some (.slice (some ⟨g, 0, none⟩) ps.length cap)) (h0 : ps ≠ []) :
    Calls Tryz.prog 112 #[.func (.func 131) #[] #[.pointer (some ⟨Bs, 0, none⟩)], .func (.func 110) #[] #[]] w fun e w' =>
      ∃ g' cap', e = .returned (.slice (some ⟨g', 0, none⟩) (stackR ps).length cap') ∧ OwnP w' w.heap.size g' cap' (stackR ps).reverse ∧ Below w.heap.size w w' := by
  have hm : (ps.attachWith PtSm hs).map (·.1) = ps := List.attachWith_map_subtype_val hs
  have h := stack_in 6 (Nat.le_refl _) w.heap.size Bs g 0 cap (ps.attachWith PtSm hs) (by simpa using hlen) w hO.lt (Nat.le_refl _) hBs (by simpa using hc) (by rw [hm]; exact PtsAt.of_own hO.own)
  rw [hm] at h
  refine (callsIn_wide.1 h).mono ?_
  rintro e w' ⟨v, rfl, hS, hb⟩
  have hne : stackR ps ≠ [] := by
    rw [← List.dropLast_concat_getLast h0, stackR_snoc]
    simp
  obtain ⟨g', cap', rfl, hO'⟩ := hS.own hne
  exact ⟨g', cap', rfl, hO', hb⟩
theorem values_any (a : Option Addr) (len cap : Nat) (w : World) :
    Calls Tryz.prog 113 #[.slice a len cap] w fun e w' => e = .returned (.func (.func 131) #[] #[.pointer (some ⟨w.heap.size, 0, none⟩)]) ∧ w' = w.alloc (.cells #[.slice a len cap] 77) :=
  callsIn_wide.1 (values_in Fence.wide 6 trivial rfl a len cap w)


theorem OwnP.of_grown {w w' : World} {base g cap : Nat} {ps : List Pt} {row : Option Nat} (h : OwnP w base g cap ps) (hb : w.grownBy w' row) (hne : some g ≠ row) : OwnP w' base g cap ps := h.grown hb hne

set_option maxRecDepth 100000 in
set_option maxHeartbeats 4000000 in
theorem corners_any (b off cap : Nat) (ps : List Pt) (h0 : ps ≠ []) (hn : ps.length ≤ 400000) (hs : ∀ p ∈ ps, PtSm p) (w : World) (hc : PtsAt w w.heap.size (some ⟨b, off, none⟩) ps) :
    Calls Tryz.prog 94 #[.slice (some ⟨b, off, none⟩) ps.length cap] w fun e w' =>
      ∃ g cap', e = .returned (.slice (some ⟨g, 0, none⟩) (cornersS ps).length cap') ∧ OwnP w' w.heap.size g cap' (cornersS ps) ∧ Below w.heap.size w w' := by
  obtain ⟨i0, hi, hz0, hz1, hz2⟩ := info_parts info_pt
  have hC : cornersS ps = (let s := compP (sortP ps); if s.length < 2 then s else (stackR s).tail.reverse ++ (stackR s.reverse).tail.reverse) := rfl
  have hcl := compP_len (sortP ps)
  rw [sortP_len] at hcl
  have hcs : ∀ q ∈ compP (sortP ps), PtSm q := fun q hq => hs q ((sortP_sub ps q).1 (compP_sub _ q hq))
  have hcn : compP (sortP ps) ≠ [] := compP_ne _ (by intro e; have := congrArg List.length e; rw [sortP_len] at this; exact h0 (List.eq_nil_of_length_eq_zero this))
  dsimp only at hC
  have HC := Lib.hid hC
  clear hC
  go_enter Tryz.func94, Tryz.ntmps94
  go_wp2_with fail
  (with_reducible refine (clone_any b off cap ps (by omega) _ hc).mono ?_)
  rintro e w1 ⟨g, cap1, rfl, hO1, hB1⟩
  go_wp2_with fail
  rw [← sortP_len ps]
  rw [sortP_len ps]
  (with_reducible refine (sortPt_any ps (by omega) _ hO1).mono ?_)
  rintro e w2 ⟨rfl, hO2, hG2⟩
  have hB2 := hB1.grown hG2 hB1.size (fun k e => by cases e; exact hO1.ge)
  clear hO1 hG2 hB1
  go_wp2_with fail
  rw [← sortP_len ps]
  (with_reducible refine (compact_any (sortP ps) (by rw [sortP_len]; omega) _ hO2).mono ?_)
  rintro e w3 ⟨rfl, hO3, hG3⟩
  have hB3 := hB2.grown hG3 hB2.size (fun k e => by cases e; exact hO2.ge)
  clear hO2 hG3 hB2
  generalize compP (sortP ps) = s at *
  by_cases hlt : s.length < 2
  · have HR : RowKit.Hid (cornersS ps = s) := HC.out.trans (if_pos hlt)
    go_wp2_with fail
    go_ret
    rw [HR.out]
    exact ⟨g, cap1, rfl, hO3, hB3⟩
  · have HR : RowKit.Hid (cornersS ps = (stackR s).tail.reverse ++ (stackR s.reverse).tail.reverse) := HC.out.trans (if_neg hlt)
    go_wp2_with fail
    (with_reducible refine (values_any _ _ _ _).mono ?_)
    rintro e w4 ⟨rfl, rfl⟩
    have hs0 : s ≠ [] := hcn
    have hO4 := hO3.alloc (.cells #[.slice (some ⟨g, 0, none⟩) s.length cap1] 77)
    have hB4 := hB3.alloc hB3.size (.cells #[.slice (some ⟨g, 0, none⟩) s.length cap1] 77)
    have hc4 := (Boxed.new w3 77 (.slice (some ⟨g, 0, none⟩) s.length cap1)).cell
    go_wp2_with fail
    (with_reducible refine (stack_any w3.heap.size g cap1 s hcs (by omega) _ w.heap.size hO4 (by simp) hc4 hs0).mono ?_)
    clear hc4
    rintro e w5 ⟨gl, capl, rfl, hL5, hG5⟩
    have hO5 := hO4.below hG5 hO4.lt
    have hB5 := hB4.trans (hG5.mono hB4.size)
    have hgl : g < gl := Nat.lt_of_lt_of_le hO4.lt hL5.ge
    have hLb := hL5.more (base' := w.heap.size) (Nat.le_trans hB4.size hL5.ge)
    clear hO4 hG5 hB4 hL5
    generalize w3.alloc _ = w3a at *
    go_wp2_with fail
    (with_reducible refine (rev_any s (by omega) _ hO5).mono ?_)
    rintro e w6 ⟨rfl, hO6, hG6⟩
    have hL6 := hLb.grown hG6 (by simp; omega)
    have hB6 := hB5.grown hG6 hB5.size (fun k e => by cases e; exact hO5.ge)
    clear hLb hG6 hB5 hO5
    go_wp2_with fail
    rw [show s.length = s.reverse.length from List.length_reverse.symm]
    (with_reducible refine (values_any _ _ _ _).mono ?_)
    rintro e w7 ⟨rfl, rfl⟩
    have hO7 := hO6.alloc (.cells #[.slice (some ⟨g, 0, none⟩) s.reverse.length cap1] 77)
    have hL7 := hL6.alloc (.cells #[.slice (some ⟨g, 0, none⟩) s.reverse.length cap1] 77)
    have hB7 := hB6.alloc hB6.size (.cells #[.slice (some ⟨g, 0, none⟩) s.reverse.length cap1] 77)
    have hc7 := (Boxed.new w6 77 (.slice (some ⟨g, 0, none⟩) s.reverse.length cap1)).cell
    go_wp2_with fail
    rw [show s.length = s.reverse.length from List.length_reverse.symm]
    (with_reducible refine (stack_any w6.heap.size g cap1 s.reverse (fun q hq => hcs q (List.mem_reverse.1 hq)) (by simp; omega) _ w.heap.size hO7 (by simp) hc7 (by simpa using hs0)).mono ?_)
    clear hc7
    rintro e w8 ⟨gh, caph, rfl, hH8, hG8⟩
    have hL8 := hL7.below hG8 hL7.lt
    have hB8 := hB7.trans (hG8.mono hB7.size)
    have hlh : gl < gh := Nat.lt_of_lt_of_le hL7.lt hH8.ge
    have hHb := hH8.more (base' := w.heap.size) (Nat.le_trans hB7.size hH8.ge)
    clear hO6 hO7 hL6 hL7 hG8 hB7 hB6 hH8
    have l1 := stackR_two s (by omega)
    have l2 := stackR_two s.reverse (by simp; omega)
    have m1 := stackR_len s
    have m2 := stackR_len s.reverse
    rw [List.length_reverse] at m2
    obtain ⟨p1, lo, hlo⟩ : ∃ p1 lo, stackR s = p1 :: lo := List.exists_cons_of_length_pos (by omega)
    obtain ⟨p2, hi2, hhi⟩ : ∃ p2 hi2, stackR s.reverse = p2 :: hi2 := List.exists_cons_of_length_pos (by omega)
    rw [hlo] at hL8 l1 m1 HR
    rw [hhi] at hHb l2 m2 HR
    rw [hlo, hhi]
    clear hlo hhi
    have hL9 := hL8.take lo.length (by simp)
    have hH9 := hHb.take hi2.length (by simp)
    have t1 : (p1 :: lo).reverse.take lo.length = lo.reverse := by
      rw [List.reverse_cons, List.take_append_of_le_length (by simp), List.take_of_length_le (by simp)]
    have t2 : (p2 :: hi2).reverse.take hi2.length = hi2.reverse := by
      rw [List.reverse_cons, List.take_append_of_le_length (by simp), List.take_of_length_le (by simp)]
    rw [t1] at hL9
    rw [t2] at hH9
    simp only [List.length_cons] at l1 l2 m1 m2
    have k1 := hL8.len
    have k2 := hHb.len
    simp only [List.length_cons, List.length_reverse] at k1 k2
    clear t1 t2 hL8 hHb
    have hr9 := hL9.own
    rw [List.length_reverse] at hr9
    have hL9d := hr9.drew
    have hnews : ∀ (j : Nat) (u : Value), (flat hi2.reverse)[j]? = some u → w8.drew.cell? ((⟨gh, 0, none⟩ : Addr).add j) = some u := by
      intro j u hj
      rw [Addr.add_lit, Nat.zero_add]
      exact hH9.cell j u hj
    have hm1 : lo.length + hi2.length ≤ maxLen := by unfold maxLen; omega
    have hm2 : (lo.length + hi2.length) * 16 ≤ 140737488355328 := by omega
    have hle : w.heap.size ≤ w8.heap.size := hB8.size
    have hgL := hL9.ge
    have hnl : (flat hi2.reverse).length = hi2.length * 2 := by rw [flat_len, List.length_reverse]
    have z1 : IntKind.i64.wrap (lo.length : Int) = (lo.length : Int) := by rw [IntWalk.i64_in _ (by omega)]
    have z2 : IntKind.i64.wrap (hi2.length : Int) = (hi2.length : Int) := by rw [IntWalk.i64_in _ (by omega)]
    have z3 : (lo.length : Int) ≤ (capl : Int) := by omega
    have z4 : (hi2.length : Int) ≤ (caph : Int) := by omega
    have z5 : (0 : Int) ≤ (lo.length : Int) := by omega
    have z6 : (0 : Int) ≤ (hi2.length : Int) := by omega
    go_wp2_with fail
    go_still_tail 10, (by kernel_rfl)
    change wpList _ _ _ _ _ w8.drew
    go_wp2_with (at_builtin; refine wpList_append_own _ rfl _ _ 77 rfl w.heap.size 57 i0 _ 2 16 Tryz.underlying77 hi hz0 hz1 hz2 rfl (by decide) _ _ _ rfl hL9d ⟨gh, 0, none⟩ hi2.length (caph) (flat hi2.reverse) rfl hnl hnews (flat_one _) hm1 hm2 hle ?_)
    intro v' w9 hown9 hgrow9 hnil9
    have hB9 : Below w.heap.size w w9 := (below_drewN hB8 1).grown hgrow9 (by simpa using hle) (fun k e => by simp [Value.ownBlock] at e; omega)
    have he : cornersS ps = lo.reverse ++ hi2.reverse := HR.out
    rcases hown9.2 with ⟨hv, _⟩ | ⟨g9, cap9, cur, rfl, hrest⟩
    · exact absurd hv hnil9
    · have hl9 : (lo.reverse ++ hi2.reverse).length = lo.length + hi2.length := by simp
      go_wp2_with fail
      go_ret
      refine ⟨g9, cap9, ?_, ?_, hB9⟩
      · rw [he, hl9]; rfl
      · rw [he]
        refine ⟨?_⟩
        rw [hl9, flat_append]
        exact hown9

end Go.Proofs.YtacmiobhnfeflaaGreat
