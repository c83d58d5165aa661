import Derived.Test.YtacmiobhnfeflaaGreatCont
namespace Go.Proofs.YtacmiobhnfeflaaGreat
open Go.RowKit Go.Sort Go.Shelf
attribute [local go_sem] Oper.semAt_some

/-- The direction of an edge. -/
def normP (e : Pt × Pt) : Pt := (e.2.2 - e.1.2, e.1.1 - e.2.1)
def normsS (h : List Pt) : List Pt := (edgesS h).map normP

theorem normsS_len (h : List Pt) (h1 : 1 < h.length) : (normsS h).length = h.length := by
  unfold normsS edgesS
  rw [if_pos h1]
  simp

set_option maxRecDepth 100000 in
set_option maxHeartbeats 4000000 in
theorem normals_in (n : Nat) (hn : 6 ≤ n) (b off cap : Nat) (h : List Pt) (h3 : 3 ≤ h.length) (hl : h.length ≤ 1000000) (hsm : ∀ p ∈ h, PtSm p) (w : World) (hP : PtsAt w w.heap.size (some ⟨b, off, none⟩) h) (hb : b < w.heap.size) :
    CallsIn Fence.wide n Tryz.prog 46 #[.slice (some ⟨b, off, none⟩) h.length cap] w fun e w' =>
      ∃ v, e = .returned v ∧ w'.ownsRow w.heap.size 57 2 v (normsS h).length (flat (normsS h)) ∧ Below w.heap.size w w' := by
  obtain ⟨i0, hi, hz0, hz1, hz2⟩ := info_parts info_pt
  have h1 : 1 ≤ n := by omega
  have h0 : h ≠ [] := by intro e; rw [e] at h3; simp at h3
  have hes : ((edgesS h).attachWith (fun e => e.1 ∈ h ∧ e.2 ∈ h) (edgesS_mem h)).map (·.1) = edgesS h := List.attachWith_map_subtype_val _
  generalize (edgesS h).attachWith (fun e => e.1 ∈ h ∧ e.2 ∈ h) (edgesS_mem h) = es at hes
  have HN : RowKit.Hid (normsS h = es.map (fun e => normP e.1)) := by
    show normsS h = _
    unfold normsS
    rw [← hes, List.map_map]
    rfl
  have hel : es.length = h.length := by
    have := congrArg List.length hes
    rw [List.length_map, edgesS, if_pos (by omega)] at this
    simpa using this
  have hd1 : ((h.length : Int) == 1) = false := by simp; omega
  have hd2 : ((h.length : Int) == 2) = false := by simp; omega
  refine callsIn_of_wp_marks Tryz.func46 rfl trivial ?_ rfl
  simp only [Tryz.ntmps46, List.size_toArray, List.length_cons, List.length_nil, Nat.reduceAdd, Nat.reduceSub, Array.replicate_succ, Array.replicate_zero, List.push_toArray, List.append_toArray, List.nil_append, List.cons_append]
  gi_wp2
  have bO := Boxed.new w 77 (.slice none 0 0)
  have hB0 : Below w.heap.size w (w.alloc (.cells #[.slice none 0 0] 77)) := (Below.refl _ w).alloc (Nat.le_refl _) _
  have hsz : (w.alloc (.cells #[.slice none 0 0] 77)).heap.size = w.heap.size + 1 := by simp
  obtain ⟨W0, hW0⟩ : ∃ W0, w.alloc (.cells #[.slice none 0 0] 77) = W0 := ⟨_, rfl⟩
  rw [hW0] at bO hB0 hsz ⊢
  clear hW0
  refine wpIn_rangeM (gf := 69) (recv := #[.slice (some ⟨b, off, none⟩) h.length cap]) rfl (enters_of Tryz.func69 (by kernel_rfl) rfl)
    (edges_stops (fun e : EdgeOf h => e.1) (n - 1) (by omega) b off w.heap.size cap h h0 hl es hes hb W0 (by omega) (hP.below hB0)) belowK_t (belowK_b (by omega)) (fun _ => rfl)
    (fun pre W => (∃ v, Boxed W w.heap.size 77 v ∧ W.ownsRow w.heap.size 57 2 v (pre.map (fun e : EdgeOf h => normP e.1)).length (flat (pre.map (fun e : EdgeOf h => normP e.1))) ∧ True) ∧ Below w.heap.size w W)
    (fun _ _ _ => False)
    (OwnFrom.and (Own.from (holdsRow_own w.heap.size w.heap.size 77 57 2 (fun pre : List (EdgeOf h) => (pre.map (fun e : EdgeOf h => normP e.1)).length) (fun pre => flat (pre.map (fun e : EdgeOf h => normP e.1))) (fun _ _ => True)) _) (ownFrom_below (Nat.le_refl _) (by omega)))
    (fun _ _ _ _ _ hs _ _ => hs)
    ⟨⟨_, bO, World.ownsRow_nil _ _ _ _, trivial⟩, hB0⟩
    (fun e a' W => ∃ Ba Bb, w.heap.size + 1 ≤ Ba ∧ w.heap.size + 1 ≤ Bb ∧ BoxP W Ba e.1.1 ∧ BoxP W Bb e.1.2 ∧ a' = { tmps := #[.slice (some ⟨b, off, none⟩) h.length cap, undef, .pointer (some ⟨w.heap.size, 0, none⟩), .pointer (some ⟨Ba, 0, none⟩), .pointer (some ⟨Bb, 0, none⟩), undef, undef, .slice (some ⟨b, off, none⟩) h.length cap, .int .i64 h.length, .bool false, undef, undef, undef, undef, undef, .slice (some ⟨b, off, none⟩) h.length cap, .func (.func 69) #[.slice (some ⟨b, off, none⟩) h.length cap] #[], .agg #[.int .i64 e.1.1.1, .int .i64 e.1.1.2], .agg #[.int .i64 e.1.2.1, .int .i64 e.1.2.2], undef, undef, undef, undef, undef, undef, undef, undef, undef, undef, undef, undef, undef, undef, undef, undef, undef, undef, undef, undef, undef, undef, undef, undef, undef, undef, undef, undef, undef, undef, undef, undef, undef, undef, undef, undef], defers := [] })
    (fun x a' _ X Y row hs hg hr => by obtain ⟨Ba, Bb, h1, h2, h3, h4, h5⟩ := hs; exact ⟨Ba, Bb, h1, h2, boxP_own Ba _ () X Y row h3 hg (fun r e => (hr r e).2), boxP_own Bb _ () X Y row h4 hg (fun r e => (hr r e).2), h5⟩)
    ?assign ?body ?done ?stop
  case assign =>
    rintro l pre e W K ⟨⟨v, bO1, hr1, _⟩, hB1⟩ hK
    have hge : w.heap.size + 1 ≤ W.heap.size := bO1.lt
    gi_wp2
    have hn1 := BoxP.new W e.1.1
    have hn2 := BoxP.new (W.alloc (.cells #[.int .i64 e.1.1.1, .int .i64 e.1.1.2] 57)) e.1.2
    rw [World.size_alloc] at hn2
    refine hK _ _ (((KeepsOthers.alloc _ _).trans (KeepsOthers.alloc _ _)).from _) (((Below.refl _ W).alloc (by omega) _).alloc (by simp; omega) _) ⟨⟨v, (bO1.alloc _).alloc _, (hr1.alloc _).alloc _, trivial⟩, (hB1.alloc (by omega) _).alloc (by simp; omega) _⟩ ⟨W.heap.size, W.heap.size + 1, hge, by omega, hn1.kept (World.grownBy_alloc _ _ none) (by simp), hn2, rfl⟩
  case body =>
    rintro l pre e a' W ⟨⟨v, bO1, hr1, _⟩, hB1⟩ ⟨Ba, Bb, hBa, hBb, bA, bB, rfl⟩ hlt
    have cO := bO1.cell
    have a0 := bA.x
    have a1 := bA.y
    have b0 := bB.x
    have b1 := bB.y
    obtain ⟨a2, a3, a4, a5⟩ := hsm _ e.2.1
    obtain ⟨b2, b3, b4, b5⟩ := hsm _ e.2.2
    have e1 : IntKind.i64.wrap (e.1.2.2 - e.1.1.2) = e.1.2.2 - e.1.1.2 := IntWalk.i64_in _ (by omega)
    have e2 : IntKind.i64.wrap (e.1.1.1 - e.1.2.1) = e.1.1.1 - e.1.2.1 := IntWalk.i64_in _ (by omega)
    have hle : w.heap.size ≤ W.heap.size := hB1.size
    have hpl : pre.length ≤ 1000000 := by omega
    have hm1 : (pre.map (fun e : EdgeOf h => normP e.1)).length + 1 ≤ maxLen := by rw [List.length_map]; unfold maxLen; omega
    have hm2 : ((pre.map (fun e : EdgeOf h => normP e.1)).length + 1) * 16 ≤ 140737488355328 := by rw [List.length_map]; omega
    have hm3 : ∀ o, w.heap.size ≤ (W.alloc o).heap.size := fun o => by simp; omega
    gi_wp2_with (gi_at_builtin; refine wpListIn_append_own _ rfl _ _ 77 rfl w.heap.size 57 i0 _ 2 16 Tryz.underlying77 hi hz0 hz1 hz2 rfl (by decide) _ _ _ rfl (hr1.alloc _) ⟨W.heap.size, 0, none⟩ 1 1 [.int .i64 (e.1.2.2 - e.1.1.2), .int .i64 (e.1.1.1 - e.1.2.1)] rfl rfl (cell_two_new _ (e.1.2.2 - e.1.1.2, e.1.1.1 - e.1.2.1) _) (encPt_one (e.1.2.2 - e.1.1.2, e.1.1.1 - e.1.2.1)) hm1 hm2 (hm3 _) ?_; (intro v' w1 hown' hgrow _; have HO := Lib.hid hown'; have HG := Lib.hid hgrow; obtain ⟨g', cap2, rfl⟩ := ownsRow_succ hown'; obtain ⟨hv1, hv2, hr2, hk2, hb2⟩ := bO1.appended (by decide) hr1 hle (by omega) hown' hgrow; have hc1 := hv1.cell; have hf1 := hv1.frozen; clear hv1 hv2 hr2 hk2 hb2))
    obtain ⟨q1, q2, q3, q4, q5⟩ := bO1.appended (by decide) hr1 hle (Nat.le_refl _) HO.out HG.out
    simp only [List.length_map] at q2 q3 q4 q5
    refine ⟨q4.from _, q5, ⟨⟨_, q2, ?_, trivial⟩, hB1.trans q5⟩⟩
    rw [List.map_append, List.map_cons, List.map_nil, flat_append, List.length_append, List.length_map]
    exact q3
  case done =>
    rename_i hKK
    rintro D zs W hD rfl ⟨⟨v, bO1, hr1, _⟩, hB1⟩ hK
    obtain ⟨gv, cv, rfl⟩ : ∃ gv cv, v = .slice (some ⟨gv, 0, none⟩) (zs.map (fun e : EdgeOf h => normP e.1)).length cv := by
      rcases hr1.2 with ⟨_, h0⟩ | ⟨g, cap', cur, hv, _⟩
      · rw [List.length_map] at h0; omega
      · exact ⟨g, cap', hv⟩
    have cO := bO1.cell
    have fO := bO1.frozen
    have BO := Lib.hid bO1
    have HR := Lib.hid hr1
    have HBW := Lib.hid hB1
    have HEL := Lib.hid hel
    clear bO1 hr1 hB1 hel
    rw [List.length_map] at cO
    gi_wp2
    have hK' := (KeepsOthers.setCell W ⟨w.heap.size, 0, none⟩ (.slice (some ⟨gv, 0, none⟩) zs.length cv)).same D _ hK rfl
    have bO2 := BO.out.set (.slice (some ⟨gv, 0, none⟩) zs.length cv)
    have hr2 := HR.out.kept (grownBy_setCell' W w.heap.size (.slice (some ⟨gv, 0, none⟩) zs.length cv)) (.inr (BO.out.not_row (by decide) HR.out).symm)
    rw [List.length_map] at hr2
    refine ⟨by simp, .inl ⟨_, _, rfl, run_takeDeferred hK', ?_⟩⟩
    have hc5 := cell_kept bO2.cell (grownBy_putObj' _ D (.deferred none)) (fun r e => by cases e; exact ⟨_, hK', rfl⟩)
    refine ⟨.slice (some ⟨gv, 0, none⟩) zs.length cv, ?_, _, rfl, ?_, (HBW.out.setCell (p := ⟨w.heap.size, 0, none⟩) (Nat.le_refl _) _).trans (belowK_b (w := w) (Nat.le_refl _) _ D _ _ (by omega) hK' rfl rfl)⟩
    · simp [results, Tryz.f46, go_sem, hc5]
    · have := ownsRow_putObj hr2 (.deferred none) hK' rfl
      rw [HN.out, List.length_map]
      exact this
  case stop =>
    rintro D c pre W _ _ h _
    exact h.elim

theorem normals_any (b off cap : Nat) (h : List Pt) (h3 : 3 ≤ h.length) (hl : h.length ≤ 1000000) (hsm : ∀ p ∈ h, PtSm p) (w : World) (hP : PtsAt w w.heap.size (some ⟨b, off, none⟩) h) (hb : b < w.heap.size) :
    Calls Tryz.prog 46 #[.slice (some ⟨b, off, none⟩) h.length cap] w fun e w' =>
      ∃ g cap', e = .returned (.slice (some ⟨g, 0, none⟩) (normsS h).length cap') ∧ OwnP w' w.heap.size g cap' (normsS h) ∧ Below w.heap.size w w' := by
  refine (callsIn_wide.1 (normals_in 6 (Nat.le_refl _) b off cap h h3 hl hsm w hP hb)).mono ?_
  rintro e w' ⟨v, rfl, hO, hB⟩
  rcases hO.2 with ⟨_, h0⟩ | ⟨g, cap', cur, hv, hr⟩
  · exfalso
    have := normsS_len h (by omega)
    omega
  · subst hv
    exact ⟨g, cap', rfl, ⟨hO⟩, hB⟩

end Go.Proofs.YtacmiobhnfeflaaGreat
