import Derived.Test.YtacmiobhnfeflaaGreatBoxC
namespace Go.Proofs.YtacmiobhnfeflaaGreat
open Go.RowKit Go.Sort Go.Shelf
attribute [local go_sem] Oper.semAt_some

theorem BxIn.lt {W : World} {B : Nat} {b : Bx} (h : BxIn W B b) : B < W.heap.size := (Array.getElem?_eq_some_iff.1 h).1
theorem BxIn.kept {W W' : World} {row : Option Nat} {B : Nat} {b : Bx} (h : BxIn W B b) (hg : W.grownBy W' row) (hne : some B ≠ row) : BxIn W' B b := (hg.block B h.lt hne).trans h
theorem BxIn.alloc' {W : World} {B : Nat} {b : Bx} (h : BxIn W B b) (o : Obj) : BxIn (W.alloc o) B b := h.kept (World.grownBy_alloc W o none) (by simp)
theorem bxIn_own (B : Nat) (b : Bx) : Own (fun (_ : List Pt) W => BxIn W B b) := fun s X Y row hs hg hrow =>
  hs.kept hg (fun e' => by obtain ⟨o, ho, hc⟩ := hrow B e'.symm; rw [show X.heap[B]? = _ from hs] at ho; cases ho; cases hc)
/-- A slice of points is not the box of a box. -/
theorem BxIn.not_row {W : World} {B : Nat} {b : Bx} (h : BxIn W B b) {base k : Nat} {v : Value} {xs : List Value} (hr : W.ownsRow base 57 2 v k xs) : some B ≠ v.ownBlock := by
  rcases hr.2 with ⟨rfl, _⟩ | ⟨g, cap, cur, rfl, _, hgb, _⟩
  · simp [Value.ownBlock]
  · intro e'
    obtain rfl : B = g := by simpa [Value.ownBlock] using e'
    have := (show W.heap[B]? = _ from h).symm.trans hgb
    simp at this
/-- What lies below n₀, and one block more. -/
def KpB (n₀ B : Nat) (W W' : World) : Prop := Below n₀ W W' ∧ (B < W.heap.size → W'.heap[B]? = W.heap[B]?)
theorem KpB.trans {n₀ B : Nat} {X Y Z : World} (h : KpB n₀ B X Y) (k : KpB n₀ B Y Z) : KpB n₀ B X Z :=
  ⟨h.1.trans k.1, fun hlt => (k.2 (Nat.lt_of_lt_of_le hlt h.1.size)).trans (h.2 hlt)⟩

set_option maxRecDepth 100000 in
set_option maxHeartbeats 4000000 in
theorem appSeq_in (n : Nat) (hn : 6 ≤ n) (base Bb : Nat) (bx : Bx) (v0 : Value) (ps : List Pt) (hlen : ps.length ≤ 1000000) (w : World) (hbase : base ≤ w.heap.size)
    (hown : w.ownsRow base 57 2 v0 ps.length (flat ps)) (hBx : BxIn w Bb bx) :
    CallsIn Fence.wide n Tryz.prog 72 #[v0, .func (.func 92) #[] #[.pointer (some ⟨Bb, 0, none⟩)]] w fun e w' =>
      ∃ v, e = .returned v ∧ w'.ownsRow base 57 2 v (ps ++ bx.cs).length (flat (ps ++ bx.cs)) ∧ Below base w w' := by
  have h1 : 1 ≤ n := by omega
  obtain ⟨i0, hi, hz0, hz1, hz2⟩ := info_parts info_pt
  refine callsIn_of_wp_marks Tryz.func72 rfl trivial ?_ rfl
  simp only [Tryz.ntmps72, List.size_toArray, List.length_cons, List.length_nil, Nat.reduceAdd, Nat.reduceSub, Array.replicate_succ, Array.replicate_zero, List.push_toArray, List.append_toArray, List.nil_append, List.cons_append]
  have hform : ∃ A cap, v0 = .slice A ps.length cap := by
    rcases hown.2 with ⟨rfl, h0⟩ | ⟨g, cap, cur, rfl, _⟩
    · exact ⟨none, 0, by rw [h0]⟩
    · exact ⟨_, _, rfl⟩
  obtain ⟨A, cap0, rfl⟩ := hform
  gi_wp2
  have bS := Boxed.new w 77 (.slice A ps.length cap0)
  have hr0 := hown.alloc (.cells #[.slice A ps.length cap0] 77)
  have hX0 : BxIn (w.alloc (.cells #[.slice A ps.length cap0] 77)) Bb bx := hBx.kept (World.grownBy_alloc w _ none) (by simp)
  have hB0 : Below base w (w.alloc (.cells #[.slice A ps.length cap0] 77)) := (Below.refl _ w).alloc hbase _
  have hsz : (w.alloc (.cells #[.slice A ps.length cap0] 77)).heap.size = w.heap.size + 1 := by simp
  have hBl : Bb < w.heap.size := hBx.lt
  obtain ⟨W0, hW0⟩ : ∃ W0, (w.alloc (.cells #[.slice A ps.length cap0] 77)) = W0 := ⟨_, rfl⟩
  rw [hW0] at bS hr0 hX0 hB0 hsz ⊢
  clear hW0
  refine wpIn_rangeFunc_ownH rfl h1 (gf := 92) (lb := #[.pointer (some ⟨Bb, 0, none⟩)]) rfl trivial (enters_of Tryz.func92 (by kernel_rfl) rfl)
    (boxC_stops Fence.wide (n - 1) trivial rfl (by omega) Bb bx (KpB base Bb) (fun X Y h hx => (h.2 hx.lt).trans hx) W0 (by omega) hX0) (fun h k => h.trans k) (fun W l o o' hl hlo ho ho' => ⟨belowK_b (w := W0) (by omega) W l o o' hl hlo ho ho', fun hlt => World.putObj_heap_other (by omega)⟩) (Below.refl _ _) (fun _ => rfl)
    (fun pre W => ((∃ v, Boxed W w.heap.size 77 v ∧ W.ownsRow base 57 2 v (ps ++ pre).length (flat (ps ++ pre)) ∧ True) ∧ BxIn W Bb bx) ∧ Below base w W)
    (fun _ _ _ => False)
    (OwnFrom.and (OwnFrom.and (Own.from (holdsRow_own base w.heap.size 77 57 2 (fun pre : List Pt => (ps ++ pre).length) (fun pre => flat (ps ++ pre)) (fun _ _ => True)) _) (Own.from (bxIn_own Bb bx) _)) (ownFrom_below hbase (by omega)))
    (fun _ _ _ _ _ hs _ _ => hs)
    ⟨⟨⟨_, bS, by rw [List.append_nil]; exact hr0, trivial⟩, hX0⟩, hB0⟩
    (fun x a' W => ∃ Bx, w.heap.size < Bx ∧ BoxP W Bx x ∧ a' = { tmps := #[.slice A ps.length cap0, .func (.func 92) #[] #[.pointer (some ⟨Bb, 0, none⟩)], .pointer (some ⟨w.heap.size, 0, none⟩), undef, .slice none 0 0, .pointer (some ⟨Bx, 0, none⟩), .func (.func 92) #[] #[.pointer (some ⟨Bb, 0, none⟩)], .agg #[.int .i64 x.1, .int .i64 x.2], undef, undef, undef, undef, undef], defers := [] })
    (fun x a' _ X Y row hs hg hr => by obtain ⟨Bx, h1, h2, h3⟩ := hs; exact ⟨Bx, h1, boxP_own Bx x () X Y row h2 hg (fun r e => (hr r e).2), h3⟩)
    ?assign ?body ?done ?stop
  case assign =>
    rintro l pre x W K ⟨⟨⟨v, bO1, hr1, _⟩, bX1⟩, hB1⟩ hK
    gi_wp2
    refine hK _ _ ((KeepsOthers.alloc _ _).from _) ⟨(Below.refl _ W).alloc (Nat.le_trans hbase hB1.size) _, fun hlt => heap_alloc_old W _ hlt⟩ ⟨⟨⟨v, bO1.alloc _, hr1.alloc _, trivial⟩, bX1.kept (World.grownBy_alloc W _ none) (by simp)⟩, hB1.alloc (Nat.le_trans hbase hB1.size) _⟩ ⟨W.heap.size, bO1.lt, BoxP.new W _, rfl⟩
  case body =>
    rintro l pre x a' W hl ⟨r, hr⟩ ⟨⟨⟨v, bO1, hr1, _⟩, bX1⟩, hB1⟩ ⟨Bx, hBx', bP, rfl⟩ hlt
    have cO := bO1.cell
    have cX := bP.x
    have cY := bP.y
    have hbW : base ≤ W.heap.size := Nat.le_trans hbase hB1.size
    have hlen2 : (ps ++ pre).length ≤ 1000004 := by simp; omega
    obtain ⟨q, hq⟩ : ∃ q, q = ps ++ pre := ⟨_, rfl⟩
    rw [← hq] at hr1 hlen2
    have HQ := Lib.hid hq
    clear hq
    have hm1 : q.length + 1 ≤ maxLen := by unfold maxLen; omega
    have hm2 : (q.length + 1) * 16 ≤ 140737488355328 := by omega
    have hm3 : ∀ o, base ≤ (W.alloc o).heap.size := fun o => by simp; omega
    have hform1 : ∃ A1 cap1, v = .slice A1 q.length cap1 := by
      rcases hr1.2 with ⟨rfl, h0⟩ | ⟨g, cap, cur, rfl, _⟩
      · exact ⟨none, 0, by rw [h0]⟩
      · exact ⟨_, _, rfl⟩
    obtain ⟨A1, cap1, rfl⟩ := hform1
    have HX := Lib.hid hr1
    gi_wp2_with (gi_at_builtin; refine wpListIn_append_own _ rfl _ _ 77 rfl base 57 i0 _ 2 16 Tryz.underlying77 hi hz0 hz1 hz2 rfl (by decide) _ _ _ rfl (hr1.alloc _) ⟨W.heap.size, 0, none⟩ 1 1 [.int .i64 x.1, .int .i64 x.2] rfl rfl (cell_two_new _ x _) (encPt_one x) hm1 hm2 (hm3 _) ?_; (intro v' w1 hown' hgrow _; have HO := Lib.hid hown'; have HG := Lib.hid hgrow; obtain ⟨g', cap2, rfl⟩ := ownsRow_succ hown'; obtain ⟨hv1, hv2, hr2, hk2, hb2⟩ := bO1.appended (by decide) hr1 hbW hbase hown' hgrow; have hc1 := hv1.cell; have hf1 := hv1.frozen; have HV := Lib.hid hv2; have HR2 := Lib.hid hr2; have HK2 := Lib.hid hk2; have HB2 := Lib.hid hb2; clear hv1 hv2 hr2 hk2 hb2 hown'))
    have hX2 := ((bX1.alloc' (.cells #[.int .i64 x.1, .int .i64 x.2] 57)).kept HG.out (bX1.not_row HX.out)).kept (grownBy_setCell' w1 w.heap.size (.slice (some ⟨g', 0, none⟩) (q.length + 1) cap2)) (by simp; omega)
    refine ⟨HK2.out.from _, ⟨HB2.out, fun _ => hX2.trans bX1.symm⟩, ⟨⟨_, HV.out, ?_, trivial⟩, hX2⟩, hB1.trans HB2.out⟩
    have e : ps ++ (pre ++ [x]) = q ++ [x] := by rw [HQ.out, List.append_assoc]
    rw [e, flat_append, List.length_append]
    exact HR2.out
  case done =>
    rintro D zs W hD rfl ⟨⟨⟨v, bO1, hr1, _⟩, bX1⟩, hB1⟩ hK
    have cO := bO1.cell
    gi_wp2
    refine ⟨by simp, .inl ⟨_, _, rfl, run_takeDeferred hK, ?_⟩⟩
    exact ⟨_, results_tmp rfl _ _ _, v, rfl, ownsRow_putObj hr1 _ hK rfl, hB1.trans (belowK_b (w := w) hbase W D _ _ (by omega) hK rfl rfl)⟩
  case stop =>
    rintro D c pre W _ _ h _
    exact h.elim

theorem appSeq_any (base Bb : Nat) (bx : Bx) (v0 : Value) (ps : List Pt) (hlen : ps.length ≤ 1000000) (w : World) (hbase : base ≤ w.heap.size)
    (hown : w.ownsRow base 57 2 v0 ps.length (flat ps)) (hBx : BxIn w Bb bx) :
    Calls Tryz.prog 72 #[v0, .func (.func 92) #[] #[.pointer (some ⟨Bb, 0, none⟩)]] w fun e w' =>
      ∃ v, e = .returned v ∧ w'.ownsRow base 57 2 v (ps ++ bx.cs).length (flat (ps ++ bx.cs)) ∧ Below base w w' :=
  callsIn_wide.1 (appSeq_in 6 (Nat.le_refl _) base Bb bx v0 ps hlen w hbase hown hBx)
theorem boxC_any (bx : Bx) (w : World) :
    Calls Tryz.prog 73 #[.agg #[.int .i64 bx.x0, .int .i64 bx.y0, .int .i64 bx.z0, .int .i64 bx.x1, .int .i64 bx.y1, .int .i64 bx.z1]] w fun e w' => e = .returned (.func (.func 92) #[] #[.pointer (some ⟨w.heap.size, 0, none⟩)]) ∧ BxIn w' w.heap.size bx ∧ Below w.heap.size w w' :=
  callsIn_wide.1 (boxC_in Fence.wide 6 trivial rfl bx w)

end Go.Proofs.YtacmiobhnfeflaaGreat
