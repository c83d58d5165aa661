import Derived.Test.YtacmiobhnfeflaaGreatCont
import Derived.Deep.RegionHeld3
namespace Go.Proofs.YtacmiobhnfeflaaGreat
open Go.RowKit Go.Sort

theorem clamp_cmp (x y : Int) : max (-1) (min (x - y) 1) = cmpI x y := by
  unfold cmpI
  split
  · omega
  · split <;> omega

set_option maxHeartbeats 1000000 in
theorem aroundCmp_any (a b : Pt) (ha : PtSm a) (hb : PtSm b) (w : World) :
    Calls Tryz.prog 84 #[.agg #[.int .i64 a.1, .int .i64 a.2], .agg #[.int .i64 b.1, .int .i64 b.2]] w fun e w' => e = .returned (.int .i64 (cmpP a b)) ∧ TwoBlocks w w' := by
  obtain ⟨a1, a2, a3, a4⟩ := ha
  obtain ⟨b1, b2, b3, b4⟩ := hb
  by_cases h : a.1 = b.1
  · have hd : (a.1 != b.1) = false := by simp [h]
    have HR : RowKit.Hid (cmpP a b = max (-1) (min (a.2 - b.2) 1)) := by show cmpP a b = _; rw [clamp_cmp]; exact if_pos h
    have e1 : IntKind.i64.wrap (a.2 - b.2) = a.2 - b.2 := IntWalk.i64_in _ (by omega)
    clear h
    go_enter Tryz.func84, Tryz.ntmps84
    go_wp2_with fail
    go_ret
    exact ⟨ret_int HR.out.symm, two_of _ _ _⟩
  · have hd : (a.1 != b.1) = true := by simp [h]
    have HR : RowKit.Hid (cmpP a b = max (-1) (min (a.1 - b.1) 1)) := by show cmpP a b = _; rw [clamp_cmp]; exact if_neg h
    have e1 : IntKind.i64.wrap (a.1 - b.1) = a.1 - b.1 := IntWalk.i64_in _ (by omega)
    clear h
    go_enter Tryz.func84, Tryz.ntmps84
    go_wp2_with fail
    go_ret
    exact ⟨ret_int HR.out.symm, two_of _ _ _⟩

set_option maxRecDepth 100000 in
set_option maxHeartbeats 4000000 in
theorem side_any {base0 : Nat} (g cap : Nat) (ps : List Pt) (h0 : ps ≠ []) (hs : ∀ p ∈ ps, PtSm p) (hlen : ps.length ≤ 1000000) (w : World) (hO : OwnP w base0 g cap ps) :
    Calls Tryz.prog 86 #[.slice (some ⟨g, 0, none⟩) ps.length cap] w fun e w' =>
      ∃ g' cap', e = .returned (.slice (some ⟨g', 0, none⟩) (stackR ps).tail.length cap') ∧ OwnP w' w.heap.size g' cap' (stackR ps).tail.reverse ∧ Below w.heap.size w w' := by
  obtain ⟨i0, hi, hz0, hz1, hz2⟩ := info_parts info_pt
  go_enter Tryz.func86, Tryz.ntmps86
  go_wp2_with fail
  go_loopg [2, 10] (ps.length) (fun m v c wr => ∃ k, RowKit.Hid (k + m = ps.length) ∧ c = .int .i64 (k : Nat) ∧ StackAt wr w.heap.size v (stackR (ps.take k)) ∧ Below w.heap.size w wr)
  case atStart => exact ⟨0, by show 0 + _ = _; omega, rfl, World.ownsRow_nil _ _ _ _, Below.refl _ _⟩
  case round =>
    obtain ⟨k, HK, rfl, hS, hB⟩ := hrel
    by_cases hlt : k < ps.length
    · obtain ⟨x, hx⟩ : ∃ x, ps[k]? = some x := ⟨_, List.getElem?_eq_getElem hlt⟩
      have hxs := hs x (List.mem_of_getElem? hx)
      have hO1 := hO.below hB hO.lt
      have cx := hO1.x hx
      have cy := hO1.y hx
      have HX := Lib.hid hx
      obtain ⟨A, capv, hv⟩ := hS.form
      subst hv
      have hSM : ∀ p ∈ stackR (ps.take k), PtSm p := fun p hp => hs p (List.mem_of_mem_take (stackR_sub _ p hp))
      have hSL : (stackR (ps.take k)).length ≤ 1000000 := by
        have h1 := stackR_len (ps.take k)
        have h2 := List.length_take_le k ps
        omega
      obtain ⟨go, hgo⟩ : ∃ go, go = gk - 1 := ⟨_, rfl⟩
      have HKO : RowKit.Hid (k + 1 + go = ps.length) := by show k + 1 + go = ps.length; have := HK.out; omega
      have hgl : go < gk := by have := HK.out; omega
      clear hgo hx
      go_wp2_with fail
      have hX1 := BoxP.new wr x
      have hS1 : StackAt (wr.alloc (.cells #[.int .i64 x.1, .int .i64 x.2] 57)) w.heap.size (.slice A (stackR (ps.take k)).length capv) (stackR (ps.take k)) := hS.alloc _
      have hB1 := hB.alloc hB.size (.cells #[.int .i64 x.1, .int .i64 x.2] 57)
      have hO1 := hO1.alloc (.cells #[.int .i64 x.1, .int .i64 x.2] 57)
      have hbx : w.heap.size ≤ wr.heap.size := hB.size
      generalize wr.heap.size = Bx at *
      generalize hst0 : stackR (ps.take k) = st0 at *
      have HST0 := Lib.hid hst0
      clear hst0 cx cy hS hB
      generalize wr.alloc _ = wa at *
      go_loopg [2, 5] (st0.length) (fun m v c wr => ∃ st, RowKit.Hid (m = st.length ∧ popR x st = popR x st0 ∧ (∀ p ∈ st, p ∈ st0) ∧ st.length ≤ st0.length) ∧ c = .int .i64 (st.length : Nat) ∧ StackAt wr w.heap.size v st ∧ BoxP wr Bx x ∧ Below w.heap.size w wr)
      case atStart => exact ⟨st0, ⟨rfl, rfl, fun p hp => hp, Nat.le_refl _⟩, rfl, hS1, hX1, hB1⟩
      case round =>
        obtain ⟨st, HI, rfl, hS, hX, hB⟩ := hrel
        have hsl : st.length ≤ 1000000 := Nat.le_trans HI.out.2.2.2 hSL
        match st, HI, hS, hsl with
        | [], HI, hS, hsl =>
          have hkeep : popR x [] = [] := rfl
          have hpop : RowKit.Hid (popR x st0 = ([] : List Pt)) := HI.out.2.1.symm.trans hkeep
          have hsl2 : (([] : List Pt)).length ≤ 1000000 := hsl
          have cX := hX.x
          have cY := hX.y
          have hm1 : (([] : List Pt)).length + 1 ≤ maxLen := by unfold maxLen; omega
          have hm2 : ((([] : List Pt)).length + 1) * 16 ≤ 140737488355328 := by omega
          have hm3 : ∀ o, w.heap.size ≤ (wr.alloc o).heap.size := fun o => by have := hB.size; simp; omega
          go_wp2_with (at_builtin; refine wpList_append_own _ rfl _ _ 78 rfl w.heap.size 57 i0 _ 2 16 Tryz.underlying78 hi hz0 hz1 hz2 rfl (by decide) _ _ _ rfl (hS.alloc _) ⟨wr.heap.size, 0, none⟩ 1 1 [.int .i64 x.1, .int .i64 x.2] rfl rfl (cell_two_new _ x _) (encPt_one x) hm1 hm2 (hm3 _) ?_)
          intro v' w4 hO4 hG4 _
          have hB4 : Below w.heap.size w w4 := (hB.alloc hB.size _).grown hG4 (by have := hB.size; simp; omega) (fun g e => hS.block_ge e)
          go_wp2_with fail
          go_roundg go
          case measure => omega
          case rel =>
            refine ⟨k + 1, HKO, by go_num, ?_, hB4⟩
            rw [← take_succ_get HX.out, stackR_snoc, HST0.out, hpop.out]
            unfold StackAt
            rw [List.reverse_cons, flat_append, List.length_cons]
            exact hO4
        | [a], HI, hS, hsl =>
          have hkeep : popR x [a] = [a] := rfl
          have hpop : RowKit.Hid (popR x st0 = [a]) := HI.out.2.1.symm.trans hkeep
          have hsl2 : ([a]).length ≤ 1000000 := hsl
          have cX := hX.x
          have cY := hX.y
          have hm1 : ([a]).length + 1 ≤ maxLen := by unfold maxLen; omega
          have hm2 : (([a]).length + 1) * 16 ≤ 140737488355328 := by omega
          have hm3 : ∀ o, w.heap.size ≤ (wr.alloc o).heap.size := fun o => by have := hB.size; simp; omega
          go_wp2_with (at_builtin; refine wpList_append_own _ rfl _ _ 78 rfl w.heap.size 57 i0 _ 2 16 Tryz.underlying78 hi hz0 hz1 hz2 rfl (by decide) _ _ _ rfl (hS.alloc _) ⟨wr.heap.size, 0, none⟩ 1 1 [.int .i64 x.1, .int .i64 x.2] rfl rfl (cell_two_new _ x _) (encPt_one x) hm1 hm2 (hm3 _) ?_)
          intro v' w4 hO4 hG4 _
          have hB4 : Below w.heap.size w w4 := (hB.alloc hB.size _).grown hG4 (by have := hB.size; simp; omega) (fun g e => hS.block_ge e)
          go_wp2_with fail
          go_roundg go
          case measure => omega
          case rel =>
            refine ⟨k + 1, HKO, by go_num, ?_, hB4⟩
            rw [← take_succ_get HX.out, stackR_snoc, HST0.out, hpop.out]
            unfold StackAt
            rw [List.reverse_cons, flat_append, List.length_cons]
            exact hO4
        | b :: a :: l, HI, hS, hsl =>
          obtain ⟨gs, caps, rfl, hOs⟩ := hS.own (by simp)
          have ha := hSM a (HI.out.2.2.1 a (by simp))
          have hb := hSM b (HI.out.2.2.1 b (by simp))
          have ca1 := hOs.x (i := l.length) (p := a) (by simp)
          have ca2 := hOs.y (i := l.length) (p := a) (by simp)
          have cb1 := hOs.x (i := l.length + 1) (p := b) (by simp)
          have cb2 := hOs.y (i := l.length + 1) (p := b) (by simp)
          have hcl := hOs.len
          simp only [List.length_reverse, List.length_cons] at hcl hsl
          have k1 : IntKind.i64.wrap ((l.length : Int) + 1 + 1 - 2) = (l.length : Int) := by
            rw [IntWalk.i64_in _ (by omega)]; omega
          have k2 : IntKind.i64.wrap ((l.length : Int) + 1 + 1 - 1) = (l.length : Int) + 1 := by
            rw [IntWalk.i64_in _ (by omega)]; omega
          have hgl := hOs.lt
          have hge1 : (2 : Int) ≤ (l.length : Int) + 1 + 1 := by omega
          have k3 : IntKind.i64.wrap ((l.length : Int) + 1) = (l.length : Int) + 1 := IntWalk.i64_in _ (by omega)
          have hi0 : (0 : Int) ≤ (l.length : Int) := by omega
          have hi1 : (l.length : Int) < (l.length : Int) + 1 + 1 := by omega
          have hi2 : (0 : Int) ≤ (l.length : Int) + 1 := by omega
          have hi3 : (l.length : Int) + 1 < (l.length : Int) + 1 + 1 := by omega
          go_upto_region 7 with (fail)
          go_cut [6, 7] from 20 to 29 (fun s1 s2 wx => ∃ b1 b2 : Nat, s1 = .pointer (some ⟨b1, 0, none⟩) ∧ s2 = .pointer (some ⟨b2, 0, none⟩) ∧ BoxP wx b1 a ∧ BoxP wx b2 b ∧ Below wr.heap.size wr wx)
          case first =>
            go_region_held3 (fun w' => w'.cell? ⟨gs, l.length * 2, none⟩ = some (.int .i64 a.1) ∧ w'.cell? ⟨gs, l.length * 2 + 1, none⟩ = some (.int .i64 a.2) ∧ w'.cell? ⟨gs, (l.length + 1) * 2, none⟩ = some (.int .i64 b.1) ∧ w'.cell? ⟨gs, (l.length + 1) * 2 + 1, none⟩ = some (.int .i64 b.2)) (go_keep) (fail)
            all_goals
              go_wp2_with fail
              go_meet
              exact ⟨_, _, rfl, rfl, by first | exact (two_boxes wr a b).1 | exact (two_boxes wr b a).2, by first | exact (two_boxes wr a b).2 | exact (two_boxes wr b a).1, below_drewN (((Below.refl _ _).alloc (Nat.le_refl _) _).alloc (by simp) _) 1⟩
          case rest =>
            obtain ⟨b1, b2, rfl, rfl, hA1, hA2, hBc⟩ := hcut
            have hS2 := own_below hS hBc
            have hX2 : BoxP wc Bx x := (hBc.block Bx hX.lt).trans hX
            have hB2 := hB.trans (hBc.mono hB.size)
            have cX := hX2.x
            have cY := hX2.y
            have d1 := hA1.x
            have d2 := hA1.y
            have d3 := hA2.x
            have d4 := hA2.y
            have hcb := cross_bd ha hb hxs
            obtain ⟨a1, a2, a3, a4⟩ := ha
            obtain ⟨b1', b2', b3, b4⟩ := hb
            obtain ⟨x1, x2, x3, x4⟩ := hxs
            clear ca1 ca2 cb1 cb2
            have e1 : IntKind.i64.wrap (b.1 - a.1) = b.1 - a.1 := IntWalk.i64_in _ (by omega)
            have e2 : IntKind.i64.wrap (x.2 - a.2) = x.2 - a.2 := IntWalk.i64_in _ (by omega)
            have e3 : IntKind.i64.wrap (b.2 - a.2) = b.2 - a.2 := IntWalk.i64_in _ (by omega)
            have e4 : IntKind.i64.wrap (x.1 - a.1) = x.1 - a.1 := IntWalk.i64_in _ (by omega)
            have e5 : IntKind.i64.wrap ((b.1 - a.1) * (x.2 - a.2)) = (b.1 - a.1) * (x.2 - a.2) := IntWalk.i64_in _ (by omega)
            have e6 : IntKind.i64.wrap ((b.2 - a.2) * (x.1 - a.1)) = (b.2 - a.2) * (x.1 - a.1) := IntWalk.i64_in _ (by omega)
            cases hd : dropS a b x with
            | true =>
              have hle : crossS a b x ≤ 0 := of_decide_eq_true hd
              have hdd : decide ((b.2 - a.2) * (x.1 - a.1) < (b.1 - a.1) * (x.2 - a.2)) = false := by
                apply decide_eq_false
                unfold crossS at hle
                omega
              have hk2 : RowKit.Hid (popR x (b :: a :: l) = popR x (a :: l)) := by show popR x (b :: a :: l) = _; rw [popR, if_pos hd]
              have hO2 := hOs.below hBc hOs.lt
              have hge : (1 : Int) ≤ (l.length : Int) + 1 + 1 := by omega
              have hcp : (l.length : Int) + 1 ≤ (caps : Int) := by omega
              clear hle hd
              go_wp2_with fail
              go_roundg (gk - 1)
              case measure => have := HI.out.1; simp at this; omega
              case rel =>
                refine ⟨a :: l, ⟨?_, ?_, ?_, ?_⟩, by simp, ?_, hX2, hB2⟩
                · have := HI.out.1; simp at this ⊢; omega
                · exact hk2.out.symm.trans HI.out.2.1
                · exact fun p hp => HI.out.2.2.1 p (List.mem_cons_of_mem _ hp)
                · have := HI.out.2.2.2; simp at this ⊢; omega
                · have h1 := hO2.take (l.length + 1) (by simp)
                  have h2 : (b :: a :: l).reverse.take (l.length + 1) = (a :: l).reverse := by
                    rw [List.reverse_cons, List.take_append_of_le_length (by simp), List.take_of_length_le (by simp)]
                  rw [h2] at h1
                  have := h1.own
                  rw [List.length_reverse] at this
                  exact this
            | false =>
              have hle : ¬ crossS a b x ≤ 0 := of_decide_eq_false hd
              have hdd : decide ((b.2 - a.2) * (x.1 - a.1) < (b.1 - a.1) * (x.2 - a.2)) = true := by
                apply decide_eq_true
                unfold crossS at hle
                omega
              have hkeep : popR x (b :: a :: l) = b :: a :: l := by rw [popR, if_neg (by rw [hd]; simp)]
              clear hle hd
              have hpop : RowKit.Hid (popR x st0 = b :: a :: l) := HI.out.2.1.symm.trans hkeep
              have hsl2 : (b :: a :: l).length ≤ 1000000 := by simp; omega
              have cX := hX2.x
              have cY := hX2.y
              have hm1 : (b :: a :: l).length + 1 ≤ maxLen := by unfold maxLen; omega
              have hm2 : ((b :: a :: l).length + 1) * 16 ≤ 140737488355328 := by omega
              have hm3 : ∀ o, w.heap.size ≤ (wc.alloc o).heap.size := fun o => by have := hB2.size; simp; omega
              go_wp2_with (at_builtin; refine wpList_append_own _ rfl _ _ 78 rfl w.heap.size 57 i0 _ 2 16 Tryz.underlying78 hi hz0 hz1 hz2 rfl (by decide) _ _ _ rfl (hS2.alloc _) ⟨wc.heap.size, 0, none⟩ 1 1 [.int .i64 x.1, .int .i64 x.2] rfl rfl (cell_two_new _ x _) (encPt_one x) hm1 hm2 (hm3 _) ?_)
              intro v' w4 hO4 hG4 _
              have hB4 : Below w.heap.size w w4 := (hB2.alloc hB2.size _).grown hG4 (by have := hB2.size; simp; omega) (fun g e => hS2.block_ge e)
              go_wp2_with fail
              go_roundg go
              case measure => omega
              case rel =>
                refine ⟨k + 1, HKO, by go_num, ?_, hB4⟩
                rw [← take_succ_get HX.out, stackR_snoc, HST0.out, hpop.out]
                unfold StackAt
                rw [List.reverse_cons, flat_append, List.length_cons, show (b :: a :: l).reverse = l.reverse ++ [a, b] from by simp]
                exact hO4
    · obtain rfl : k = ps.length := by have := HK.out; omega
      rw [List.take_length] at hS
      have hne : stackR ps ≠ [] := by
        rw [← List.dropLast_concat_getLast h0, stackR_snoc]
        simp
      obtain ⟨gs, caps, rfl, hOs⟩ := hS.own hne
      have hsl := stackR_len ps
      have h1 := hOs.len
      rw [List.length_reverse] at h1
      obtain ⟨t, st, hst⟩ : ∃ t st, stackR ps = t :: st := List.exists_cons_of_ne_nil hne
      rw [hst] at hOs h1 hsl
      have HST := Lib.hid hst
      simp only [List.length_cons] at h1 hsl
      have e1 : IntKind.i64.wrap ((st.length : Int) + 1 - 1) = (st.length : Int) := by rw [IntWalk.i64_in _ (by omega)]; omega
      have hcp : (st.length : Int) ≤ (caps : Int) := by omega
      have hcp2 : (0 : Int) ≤ (st.length : Int) := by omega
      rw [hst]
      clear hst hS hne
      go_wp2_with fail
      go_ret
      have h2 := hOs.take st.length (by simp)
      have h3 : (t :: st).reverse.take st.length = st.reverse := by
        rw [List.reverse_cons, List.take_append_of_le_length (by simp), List.take_of_length_le (by simp)]
      rw [h3] at h2
      rw [HST.out]
      exact ⟨gs, caps, rfl, h2, hB⟩

end Go.Proofs.YtacmiobhnfeflaaGreat
