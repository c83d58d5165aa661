import Derived.Test.YtacmiobhnfeflaaGreatAround
namespace Go.Proofs.YtacmiobhnfeflaaGreat
open Go.RowKit Go.Sort Go.Shelf

instance : Inhabited SPt := ⟨⟨(0, 0), ⟨by decide, by decide, by decide, by decide⟩⟩⟩
theorem flatK_sub (l : List SPt) : flatK (fun p : SPt => encPt p.1) 2 l.toArray = flatK encPt 2 (l.map (·.1)).toArray := by
  refine ext_get! (by simp) fun t ht => ?_
  have ht' : t < l.length * 2 := by simpa using ht
  rw [get_flatK _ _ _ _ (by simpa using ht'), get_flatK _ _ _ _ (by simpa using ht')]
  have h1 : t / 2 < l.length := by omega
  simp [h1]
theorem ltOf_sub (x y : SPt) : ltOf (fun a b : SPt => cmpP a.1 b.1) x y = ltOf cmpP x.1 y.1 := rfl

/-- The order of around. -/
theorem sortAr_any {base g cap : Nat} (ps : List Pt) (hs : ∀ p ∈ ps, PtSm p) (hn : ps.length ≤ 1000000) (w : World) (h : OwnP w base g cap ps) :
    Calls Tryz.prog 83 #[.slice (some ⟨g, 0, none⟩) ps.length cap, .func (.func 84) #[] #[]] w fun e w' =>
      e = .returned (.tuple #[]) ∧ OwnP w' base g cap (sortP ps) ∧ w.grownBy w' (some g) := by
  have hm : (ps.attachWith PtSm hs).map (·.1) = ps := List.attachWith_map_subtype_val hs
  have hH : HoldsK (fun p : SPt => encPt p.1) 2 w g 0 (ps.attachWith PtSm hs).toArray := by
    have := h.holds
    unfold HoldsK at this ⊢
    rw [flatK_sub, hm]
    exact this
  have hq := AnyQ.slices_SortFunc_total Tryz.sortPt 2 Tryz.isAgg57 Tryz.sizeOf57 (fun p : SPt => encPt p.1) (fun p => encPt_len p.1) (fun p => encPt_one p.1) (fun a b : SPt => cmpP a.1 b.1)
    ⟨fun x => swo_cmpP.irrefl x.1, fun x y z => swo_cmpP.trans x.1 y.1 z.1, fun x y z => swo_cmpP.ntrans x.1 y.1 z.1⟩ 84 #[] g 0 cap (ps.attachWith PtSm hs).toArray w
    (fun args w => enters_of Tryz.func84 (by kernel_rfl) rfl args w)
    (fun m os dk _ x y => (aroundCmp_any x.1 y.1 x.2 y.2 _).mono fun e w' h => h) hH h.lt (by simp; omega) (fun x y h1 h2 => Subtype.ext (tot_cmpP x.1 y.1 h1 h2))
  simp only [List.size_toArray, List.length_attachWith] at hq
  refine hq.mono ?_
  rintro e w' ⟨rfl, n, os, rfl⟩
  refine ⟨rfl, ?_⟩
  have e1 : ((ps.attachWith PtSm hs).toArray.toList.mergeSort fun x y => !(ltOf (fun a b : SPt => cmpP a.1 b.1)) y x).map (·.1) = sortP ps := by
    rw [List.map_mergeSort (s := leP) (fun a _ b _ => by rw [ltOf_sub]; exact not_lt_le a.1 b.1)]
    simp only [hm]
    rfl
  unfold sortWorldK putRowK
  rw [flatK_sub, e1]
  exact h.put (by unfold sortP; exact List.length_mergeSort ps) n os

theorem two_corners (s : List Pt) (h : s.length = 2) : (stackR s).tail.reverse ++ (stackR s.reverse).tail.reverse = s := by
  match s, h with
  | [p, q], _ => simp [stackR, popR]

set_option maxRecDepth 100000 in
set_option maxHeartbeats 4000000 in
theorem around_any (b off cap : Nat) (ps : List Pt) (h0 : ps ≠ []) (hn : ps.length ≤ 400000) (hs : ∀ p ∈ ps, PtSm p) (w : World) (hc : PtsAt w w.heap.size (some ⟨b, off, none⟩) ps) :
    Calls Tryz.prog 65 #[.slice (some ⟨b, off, none⟩) ps.length cap] w fun e w' =>
      ∃ g cap', e = .returned (.slice (some ⟨g, 0, none⟩) (cornersS ps).length cap') ∧ OwnP w' w.heap.size g cap' (cornersS ps) ∧ Below w.heap.size w w' := by
  obtain ⟨i0, hi, hz0, hz1, hz2⟩ := info_parts info_pt
  have hC : cornersS ps = (let s := compP (sortP ps); if s.length < 2 then s else (stackR s).tail.reverse ++ (stackR s.reverse).tail.reverse) := rfl
  have hcl := compP_len (sortP ps)
  rw [sortP_len] at hcl
  have hcs : ∀ q ∈ compP (sortP ps), PtSm q := fun q hq => hs q ((sortP_sub ps q).1 (compP_sub _ q hq))
  have hcn : compP (sortP ps) ≠ [] := compP_ne _ (by intro e; have := congrArg List.length e; rw [sortP_len] at this; exact h0 (List.eq_nil_of_length_eq_zero this))
  dsimp only at hC
  have HC := Lib.hid hC
  clear hC
  go_enter Tryz.func65, Tryz.ntmps65
  go_wp2_with fail
  (with_reducible refine (clone_any b off cap ps (by omega) _ hc).mono ?_)
  rintro e w1 ⟨g, cap1, rfl, hO1, hB1⟩
  go_wp2_with fail
  (with_reducible refine (sortAr_any ps hs (by omega) _ hO1).mono ?_)
  rintro e w2 ⟨rfl, hO2, hG2⟩
  have hB2 := hB1.grown hG2 hB1.size (fun k e => by cases e; exact hO1.ge)
  clear hO1 hG2 hB1
  go_wp2_with fail
  rw [← sortP_len ps]
  (with_reducible refine (compact_any (sortP ps) (by rw [sortP_len]; omega) _ hO2).mono ?_)
  rintro e w3 ⟨rfl, hO3, hG3⟩
  have hB3 := hB2.grown hG3 hB2.size (fun k e => by cases e; exact hO2.ge)
  clear hO2 hG3 hB2
  generalize compP (sortP ps) = s at *
  by_cases hlt : s.length < 3
  · have HR : RowKit.Hid (cornersS ps = s) := by
      show cornersS ps = s
      by_cases h2 : s.length < 2
      · exact HC.out.trans (if_pos h2)
      · exact (HC.out.trans (if_neg h2)).trans (two_corners s (by omega))
    go_wp2_with fail
    go_ret
    rw [HR.out]
    exact ⟨g, cap1, rfl, hO3, hB3⟩
  · have HR : RowKit.Hid (cornersS ps = (stackR s).tail.reverse ++ (stackR s.reverse).tail.reverse) := HC.out.trans (if_neg (by omega))
    have hs0 : s ≠ [] := hcn
    go_wp2_with fail
    (with_reducible refine (side_any g cap1 s hs0 hcs (by omega) _ hO3).mono ?_)
    rintro e w5 ⟨gl, capl, rfl, hL5, hG5⟩
    have hO5 := hO3.below hG5 hO3.lt
    have hB5 := hB3.trans (hG5.mono hB3.size)
    have hgl : g < gl := Nat.lt_of_lt_of_le hO3.lt hL5.ge
    have hLb := hL5.more (base' := w.heap.size) (Nat.le_trans hB3.size hL5.ge)
    clear hO3 hG5 hB3 hL5
    go_wp2_with fail
    (with_reducible refine (rev_any s (by omega) _ hO5).mono ?_)
    rintro e w6 ⟨rfl, hO6, hG6⟩
    have hL6 := hLb.grown hG6 (by simp; omega)
    have hB6 := hB5.grown hG6 hB5.size (fun k e => by cases e; exact hO5.ge)
    clear hLb hG6 hB5 hO5
    go_wp2_with fail
    rw [show s.length = s.reverse.length from List.length_reverse.symm]
    (with_reducible refine (side_any g cap1 s.reverse (by simpa using hs0) (fun q hq => hcs q (List.mem_reverse.1 hq)) (by simp; omega) _ hO6).mono ?_)
    rintro e w8 ⟨gh, caph, rfl, hH8, hG8⟩
    have hL8 := hL6.below hG8 hL6.lt
    have hB8 := hB6.trans (hG8.mono hB6.size)
    have hlh : gl < gh := Nat.lt_of_lt_of_le hL6.lt hH8.ge
    have hHb := hH8.more (base' := w.heap.size) (Nat.le_trans hB6.size hH8.ge)
    clear hO6 hL6 hG8 hB6 hH8
    have l1 := stackR_two s (by omega)
    have l2 := stackR_two s.reverse (by simp; omega)
    have m1 := stackR_len s
    have m2 := stackR_len s.reverse
    rw [List.length_reverse] at m2
    generalize stackR s = S1 at *
    generalize stackR s.reverse = S2 at *
    obtain ⟨p1, lo, rfl⟩ : ∃ p1 lo, S1 = p1 :: lo := List.exists_cons_of_length_pos (by omega)
    obtain ⟨p2, hi2, rfl⟩ : ∃ p2 hi2, S2 = p2 :: hi2 := List.exists_cons_of_length_pos (by omega)
    simp only [List.tail_cons, List.length_cons] at hL8 hHb l1 l2 m1 m2 HR ⊢
    have k1 := hL8.len
    have k2 := hHb.len
    simp only [List.length_reverse] at k1 k2
    have hr9 := hL8.own
    rw [List.length_reverse] at hr9
    have hnews : ∀ (j : Nat) (u : Value), (flat hi2.reverse)[j]? = some u → w8.cell? ((⟨gh, 0, none⟩ : Addr).add j) = some u := by
      intro j u hj
      rw [Addr.add_lit, Nat.zero_add]
      exact hHb.cell j u hj
    have hm1 : lo.length + hi2.length ≤ maxLen := by unfold maxLen; omega
    have hm2 : (lo.length + hi2.length) * 16 ≤ 140737488355328 := by omega
    have hle : w.heap.size ≤ w8.heap.size := hB8.size
    have hgL := hL8.ge
    have hnl : (flat hi2.reverse).length = hi2.length * 2 := by rw [flat_len, List.length_reverse]
    go_wp2_with (at_builtin; refine wpList_append_own _ rfl _ _ 78 rfl w.heap.size 57 i0 _ 2 16 Tryz.underlying78 hi hz0 hz1 hz2 rfl (by decide) _ _ _ rfl hr9 ⟨gh, 0, none⟩ hi2.length (caph) (flat hi2.reverse) rfl hnl hnews (flat_one _) hm1 hm2 hle ?_)
    intro v' w9 hown9 hgrow9 hnil9
    have hB9 : Below w.heap.size w w9 := hB8.grown hgrow9 (by simpa using hle) (fun k e => by simp [Value.ownBlock] at e; omega)
    have he : cornersS ps = lo.reverse ++ hi2.reverse := HR.out
    rcases hown9.2 with ⟨hv, _⟩ | ⟨g9, cap9, cur, rfl, hrest⟩
    · exact absurd hv hnil9
    · have hl9 : (lo.reverse ++ hi2.reverse).length = lo.length + hi2.length := by simp
      go_wp2_with fail
      go_ret
      refine ⟨g9, cap9, ?_, ?_, hB9⟩
      · rw [he, hl9]; rfl
      · rw [he]
        refine ⟨?_⟩
        rw [hl9, flat_append]
        exact hown9

end Go.Proofs.YtacmiobhnfeflaaGreat
