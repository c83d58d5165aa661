import Derived.Test.YtacmiobhnfeflaaGreatValues
namespace Go.Proofs.YtacmiobhnfeflaaGreat
open Go.RowKit Go.Sort Go.Shelf
attribute [local go_sem] Oper.semAt_some

/-- What is left of a stack (its top first) when x comes. -/
def popR (x : Pt) : List Pt → List Pt
  | [] => []
  | [a] => [a]
  | b :: a :: l => if dropS a b x then popR x (a :: l) else b :: a :: l
def stackR (ps : List Pt) : List Pt := ps.foldl (fun st x => x :: popR x st) []
theorem stackR_snoc (ps : List Pt) (x : Pt) : stackR (ps ++ [x]) = x :: popR x (stackR ps) := by simp [stackR]
theorem popR_suffix (x : Pt) (l : List Pt) : popR x l <:+ l := by
  fun_induction popR x l with
  | case1 => exact List.suffix_refl _
  | case2 a => exact List.suffix_refl _
  | case3 b a l h ih => exact ih.trans (List.suffix_cons _ _)
  | case4 b a l h => exact List.suffix_refl _
theorem popR_sub (x : Pt) (l : List Pt) {p : Pt} (h : p ∈ popR x l) : p ∈ l := (popR_suffix x l).subset h
theorem stackR_sub (ps : List Pt) : ∀ p ∈ stackR ps, p ∈ ps := by
  unfold stackR
  have : ∀ (ps st : List Pt), ∀ p ∈ ps.foldl (fun st x => x :: popR x st) st, p ∈ st ∨ p ∈ ps := by
    intro ps
    induction ps with
    | nil => intro st p hp; exact .inl hp
    | cons x ps ih =>
      intro st p hp
      rcases ih _ p hp with h | h
      · rcases List.mem_cons.1 h with h | h
        · exact .inr (by simp [h])
        · exact .inl (popR_sub x st h)
      · exact .inr (List.mem_cons_of_mem _ h)
  intro p hp
  rcases this ps [] p hp with h | h
  · cases h
  · exact h
theorem stackR_len (ps : List Pt) : (stackR ps).length ≤ ps.length := by
  have : ∀ (ps st : List Pt), (ps.foldl (fun st x => x :: popR x st) st).length ≤ st.length + ps.length := by
    intro ps
    induction ps with
    | nil => intro st; simp
    | cons x ps ih =>
      intro st
      have h1 := ih (x :: popR x st)
      have h2 := (popR_suffix x st).length_le
      simp at h1 ⊢
      omega
  have := this ps []
  simpa [stackR] using this

abbrev SPt := { p : Pt // PtSm p }

/-- A variable's box of a point. -/
def BoxP (W : World) (B : Nat) (p : Pt) : Prop := W.heap[B]? = some (.cells #[.int .i64 p.1, .int .i64 p.2] 57 (0, 0))
theorem BoxP.lt {W : World} {B : Nat} {p : Pt} (h : BoxP W B p) : B < W.heap.size := (Array.getElem?_eq_some_iff.1 h).1
theorem BoxP.x {W : World} {B : Nat} {p : Pt} (h : BoxP W B p) : W.cell? ⟨B, 0, none⟩ = some (.int .i64 p.1) := by simp [World.cell?, show W.heap[B]? = _ from h]
theorem BoxP.y {W : World} {B : Nat} {p : Pt} (h : BoxP W B p) : W.cell? ⟨B, 1, none⟩ = some (.int .i64 p.2) := by simp [World.cell?, show W.heap[B]? = _ from h]
theorem BoxP.kept {W W' : World} {row : Option Nat} {B : Nat} {p : Pt} (h : BoxP W B p) (hg : W.grownBy W' row) (hne : some B ≠ row) : BoxP W' B p := (hg.block B h.lt hne).trans h
theorem BoxP.new (W : World) (p : Pt) : BoxP (W.alloc (.cells #[.int .i64 p.1, .int .i64 p.2] 57)) W.heap.size p := World.alloc_heap_new W _
theorem boxP_own (B : Nat) (p : Pt) : Own (fun (_ : Unit) W => BoxP W B p) := fun s X Y row hs hg hrow =>
  hs.kept hg (fun e' => by obtain ⟨o, ho, hc⟩ := hrow B e'.symm; rw [show X.heap[B]? = _ from hs] at ho; cases ho; cases hc)
theorem grownBy_of_below {W W' : World} (h : Below W.heap.size W W') : W.grownBy W' none := ⟨h.os, h.tape, h.output, h.size, fun k hk _ => h.block k hk⟩

/-- The stack (top first) as it lies. -/
def StackAt (W : World) (base : Nat) (v : Value) (st : List Pt) : Prop := W.ownsRow base 57 2 v st.length (flat st.reverse)
theorem StackAt.own {W : World} {base : Nat} {v : Value} {st : List Pt} (h : StackAt W base v st) (h0 : st ≠ []) : ∃ g cap, v = .slice (some ⟨g, 0, none⟩) st.length cap ∧ OwnP W base g cap st.reverse := by
  rcases h.2 with ⟨_, hn⟩ | ⟨g, cap, cur, rfl, hg, hr⟩
  · exact absurd (List.eq_nil_of_length_eq_zero hn) h0
  · exact ⟨g, cap, rfl, ⟨by rw [List.length_reverse]; exact h⟩⟩

theorem right_is (a b c : Pt) (ha : PtSm a) (hb : PtSm b) (hc : PtSm c) (t : Bool) (h : dropS a b c = t) (w : World) :
    Calls Tryz.prog 110 #[.agg #[.int .i64 a.1, .int .i64 a.2], .agg #[.int .i64 b.1, .int .i64 b.2], .agg #[.int .i64 c.1, .int .i64 c.2]] w fun e w' => e = .returned (.bool t) ∧ Below w.heap.size w w' :=
  (right_any a b c ha hb hc w).mono fun e w' ⟨he, hw⟩ => ⟨by rw [he, h], hw⟩
theorem StackAt.form {W : World} {base : Nat} {v : Value} {st : List Pt} (h : StackAt W base v st) : ∃ A cap, v = .slice A st.length cap := by
  rcases h.2 with ⟨rfl, hn⟩ | ⟨g, cap, cur, rfl, hg, hr⟩
  · exact ⟨none, 0, by rw [hn]⟩
  · exact ⟨_, cap, rfl⟩
/-- How long the slice in a variable's box is. -/
def lenIn (W : World) (B : Nat) : Nat := match W.cell? ⟨B, 0, none⟩ with | some (.slice _ n _) => n | _ => 0
/-- What the inner loop keeps. -/
structure PopInv (w W0 W : World) (n₀ Bx : Nat) (x : Pt) (st0 : List Pt) (F : Value) (wr : World) (st : List Pt) (v : Value) : Prop where
  out : Boxed wr (w.heap.size + 1) 77 v
  drop : Boxed wr w.heap.size 149 F
  bx : BoxP wr Bx x
  at_ : StackAt wr w.heap.size v st
  pop : popR x st = popR x st0
  len : st.length ≤ st0.length
  sm : ∀ p ∈ st, PtSm p
  below : Below w.heap.size W wr
  keeps : KeepsFrom W0.heap.size W wr

theorem PopInv.grown {w W0 W : World} {n₀ Bx : Nat} {x : Pt} {st0 : List Pt} {F : Value} {wr : World} {st : List Pt} {v : Value} (h : PopInv w W0 W n₀ Bx x st0 F wr st v) (hw : w.heap.size ≤ W.heap.size) (d : Nat) (os : Array Obj) :
    PopInv w W0 W n₀ Bx x st0 F (grow (redrawn wr d) os) st v := by
  have hb := below_regrown wr d os
  have hg := grownBy_of_below hb
  exact ⟨h.out.kept hg (by simp), h.drop.kept hg (by simp), h.bx.kept hg (by simp), h.at_.kept hg (by cases v.ownBlock with | none => exact .inl rfl | some k => exact .inr (by simp)), h.pop, h.len, h.sm,
    h.below.trans (hb.mono (Nat.le_trans hw h.below.size)), h.keeps.trans ((KeepsOthers.of_grownBy hg (fun j o e => by cases e)).from _)⟩
theorem PopInv.popped {w W0 W : World} {n₀ Bx : Nat} {x : Pt} {st0 : List Pt} {F : Value} {wr : World} {a b : Pt} {l : List Pt} {g cap : Nat} (h : PopInv w W0 W n₀ Bx x st0 F wr (b :: a :: l) (.slice (some ⟨g, 0, none⟩) (b :: a :: l).length cap)) (hd : dropS a b x = true) (hx : w.heap.size + 1 < Bx) :
    PopInv w W0 W n₀ Bx x st0 F (wr.setCell ⟨w.heap.size + 1, 0, none⟩ (.slice (some ⟨g, 0, none⟩) (a :: l).length cap)) (a :: l) (.slice (some ⟨g, 0, none⟩) (a :: l).length cap) := by
  have hg := grownBy_setCell' wr (w.heap.size + 1) (.slice (some ⟨g, 0, none⟩) (a :: l).length cap)
  obtain ⟨g', cap', hv, hO⟩ := h.at_.own (by simp)
  injection hv with e1 _ e3
  injection e1 with e1
  injection e1 with e1
  subst e1; subst e3
  have hne : some (w.heap.size + 1) ≠ (Value.slice (some ⟨g, 0, none⟩) (b :: a :: l).length cap).ownBlock := h.out.not_row (by decide) h.at_
  have hne' : some g ≠ some (w.heap.size + 1) := fun e => hne (by simp [Value.ownBlock]; exact (Option.some.inj e).symm)
  refine ⟨h.out.set _, h.drop.other (by omega) _, h.bx.kept hg (by simp; omega), ?_, ?_, by have := h.len; simp at this ⊢; omega, fun p hp => h.sm p (List.mem_cons_of_mem _ hp), h.below.setCell (p := ⟨w.heap.size + 1, 0, none⟩) (by simp) _, h.keeps.trans ((KeepsOthers.setCell _ _ _).from _)⟩
  · have hT := hO.take (a :: l).length (by simp)
    have e : (b :: a :: l).reverse.take (a :: l).length = (a :: l).reverse := by
      rw [List.reverse_cons, List.take_append_of_le_length (by simp), List.take_of_length_le (by simp)]
    rw [e] at hT
    have hT2 := hT.grown hg hne'
    have := hT2.own
    rw [List.length_reverse] at this
    exact this
  · rw [← h.pop, popR, if_pos hd]

theorem PopInv.pushed {w W0 W : World} {n₀ Bx : Nat} {x : Pt} {st0 : List Pt} {F : Value} {w2 w1 : World} {st : List Pt} {v v' : Value} {tmp : Obj} (h : PopInv w W0 W n₀ Bx x st0 F w2 st v) (hst : popR x st = st) (hw : w.heap.size ≤ W.heap.size)
    (hown' : w1.ownsRow w.heap.size 57 2 v' (st.length + 1) (flat st.reverse ++ [.int .i64 x.1, .int .i64 x.2])) (hgrow : (w2.alloc tmp).grownBy w1 v.ownBlock) :
    KeepsFrom W0.heap.size W (w1.setCell ⟨w.heap.size + 1, 0, none⟩ v') ∧ Below w.heap.size W (w1.setCell ⟨w.heap.size + 1, 0, none⟩ v') ∧
    ((∃ u, Boxed (w1.setCell ⟨w.heap.size + 1, 0, none⟩ v') (w.heap.size + 1) 77 u ∧ (w1.setCell ⟨w.heap.size + 1, 0, none⟩ v').ownsRow w.heap.size 57 2 u (x :: popR x st0).length (flat (x :: popR x st0).reverse) ∧ True) ∧
    Boxed (w1.setCell ⟨w.heap.size + 1, 0, none⟩ v') w.heap.size 149 F) := by
  have hle : w.heap.size ≤ w2.heap.size := Nat.le_trans hw h.below.size
  obtain ⟨hv1, hv2, hr2, hk2, hb2⟩ := h.out.appended (by decide) h.at_ hle (by omega) hown' hgrow
  have e : popR x st0 = st := by rw [← h.pop, hst]
  refine ⟨h.keeps.trans (hk2.from _), h.below.trans hb2, ⟨_, hv2, ?_, trivial⟩, ?_⟩
  · rw [e, List.reverse_cons, flat_append]
    exact hr2
  · exact ((h.drop.alloc tmp).kept hgrow (h.drop.not_row (by decide) h.at_)).other (by omega) _
theorem cell_two_new (w : World) (p : Pt) (T : TypeId) : ∀ (j : Nat) (u : Value), [Value.int .i64 p.1, Value.int .i64 p.2][j]? = some u →
    (w.alloc (.cells #[.int .i64 p.1, .int .i64 p.2] T)).cell? ((⟨w.heap.size, 0, none⟩ : Addr).add j) = some u := by
  intro j u hj
  have hb : (w.alloc (.cells #[.int .i64 p.1, .int .i64 p.2] T)).heap[w.heap.size]? = some (.cells #[.int .i64 p.1, .int .i64 p.2] T (0, 0)) := heap_alloc_new w _
  match j, hj with
  | 0, hj => cases hj; rw [Addr.add_lit]; unfold World.cell?; rw [hb]; rfl
  | 1, hj => cases hj; rw [Addr.add_lit]; unfold World.cell?; rw [hb]; rfl

set_option maxRecDepth 100000 in
set_option maxHeartbeats 4000000 in
theorem stack_in (n : Nat) (hn : 6 ≤ n) (n₀ Bs b off cap : Nat) (ps : List SPt) (hlen : ps.length ≤ 1000000) (w : World) (hb : b < n₀) (hn₀ : n₀ ≤ w.heap.size) (hBs : Bs < w.heap.size)
    (hc : w.cell? ⟨Bs, 0, none⟩ = some (.slice (some ⟨b, off, none⟩) ps.length cap)) (hI : PtsAt w n₀ (some ⟨b, off, none⟩) (ps.map (·.1))) :
    CallsIn Fence.wide n Tryz.prog 112 #[.func (.func 131) #[] #[.pointer (some ⟨Bs, 0, none⟩)], .func (.func 110) #[] #[]] w fun e w' =>
      ∃ v, e = .returned v ∧ StackAt w' w.heap.size v (stackR (ps.map (·.1))) ∧ Below w.heap.size w w' := by
  have h1 : 1 ≤ n := by omega
  obtain ⟨i0, hi, hz0, hz1, hz2⟩ := info_parts info_pt
  refine callsIn_of_wp_marks Tryz.func112 rfl trivial ?_ rfl
  simp only [Tryz.ntmps112, List.size_toArray, List.length_cons, List.length_nil, Nat.reduceAdd, Nat.reduceSub, Array.replicate_succ, Array.replicate_zero, List.push_toArray, List.append_toArray, List.nil_append, List.cons_append]
  gi_wp2
  have bD := (Boxed.new w 149 (.func (.func 110) #[] #[])).alloc (.cells #[.slice none 0 0] 77)
  have bO := Boxed.new (w.alloc (.cells #[.func (.func 110) #[] #[]] 149)) 77 (.slice none 0 0)
  simp only [World.size_alloc] at bO
  have hB0 : Below w.heap.size w ((w.alloc (.cells #[.func (.func 110) #[] #[]] 149)).alloc (.cells #[.slice none 0 0] 77)) := ((Below.refl _ w).alloc (Nat.le_refl _) _).alloc (by simp) _
  have hsz : ((w.alloc (.cells #[.func (.func 110) #[] #[]] 149)).alloc (.cells #[.slice none 0 0] 77)).heap.size = w.heap.size + 2 := by simp
  obtain ⟨W0, hW0⟩ : ∃ W0, (w.alloc (.cells #[.func (.func 110) #[] #[]] 149)).alloc (.cells #[.slice none 0 0] 77) = W0 := ⟨_, rfl⟩
  rw [hW0] at bD bO hB0 hsz ⊢
  clear hW0
  refine wpIn_rangeFunc_ownH rfl h1 (gf := 131) (lb := #[.pointer (some ⟨Bs, 0, none⟩)]) rfl trivial (enters_of Tryz.func131 (by kernel_rfl) rfl)
    (values_stops (fun x : SPt => x.1) Fence.wide (n - 1) trivial rfl (by omega) Bs n₀ b off cap ps hlen hb W0 (by omega) (by omega) ((hB0.cell (p := ⟨Bs, 0, none⟩) hBs).trans hc) (hI.below (hB0.mono hn₀))) belowK_t (belowK_b (by omega)) (Below.refl _ _) (fun _ => rfl)
    (fun pre W => ((∃ v, Boxed W (w.heap.size + 1) 77 v ∧ W.ownsRow w.heap.size 57 2 v (stackR (pre.map (·.1))).length (flat (stackR (pre.map (·.1))).reverse) ∧ True) ∧ Boxed W w.heap.size 149 (.func (.func 110) #[] #[])) ∧ Below w.heap.size w W)
    (fun _ _ _ => False)
    (OwnFrom.and (OwnFrom.and (Own.from (holdsRow_own w.heap.size (w.heap.size + 1) 77 57 2 (fun pre : List SPt => (stackR (pre.map (·.1))).length) (fun pre => flat (stackR (pre.map (·.1))).reverse) (fun _ _ => True)) _) (Own.from (boxed_own _ _ _) _)) (ownFrom_below (Nat.le_refl _) (by omega)))
    (fun _ _ _ _ _ hs _ _ => hs)
    ⟨⟨⟨_, bO, World.ownsRow_nil _ _ _ _, trivial⟩, bD⟩, hB0⟩
    (fun x a' W => ∃ Bx, w.heap.size + 1 < Bx ∧ BoxP W Bx x.1 ∧ a' = { tmps := #[.func (.func 131) #[] #[.pointer (some ⟨Bs, 0, none⟩)], .func (.func 110) #[] #[], undef, .pointer (some ⟨w.heap.size, 0, none⟩), .slice none 0 0, .pointer (some ⟨w.heap.size + 1, 0, none⟩), .pointer (some ⟨Bx, 0, none⟩), .func (.func 131) #[] #[.pointer (some ⟨Bs, 0, none⟩)], .agg #[.int .i64 x.1.1, .int .i64 x.1.2], undef, undef, undef, undef, undef, undef, undef, undef, undef, undef, undef, undef, undef, undef, undef, undef, undef, undef, undef, undef, undef, undef, undef, undef, undef, undef, undef, undef, undef, undef], defers := [] })
    (fun x a' _ X Y row hs hg hr => by obtain ⟨Bx, h1, h2, h3⟩ := hs; exact ⟨Bx, h1, boxP_own Bx x.1 () X Y row h2 hg (fun r e => (hr r e).2), h3⟩)
    ?assign ?body ?done ?stop
  case assign =>
    rintro l pre x W K ⟨⟨⟨v, bO1, hr1, _⟩, bD1⟩, hB1⟩ hK
    gi_wp2
    exact hK _ _ ((KeepsOthers.alloc _ _).from _) ((Below.refl _ W).alloc (by have := hB1.size; omega) _) ⟨⟨⟨v, bO1.alloc _, hr1.alloc _, trivial⟩, bD1.alloc _⟩, hB1.alloc hB1.size _⟩ ⟨W.heap.size, bO1.lt, BoxP.new W _, rfl⟩
  case body =>
    rintro l pre x a' W hl ⟨r, hr⟩ ⟨⟨⟨v, bO1, hr1, _⟩, bD1⟩, hB1⟩ ⟨Bx, hBx, bX, rfl⟩ hlt
    have hSM : ∀ p ∈ stackR (pre.map (·.1)), PtSm p := by
      intro p hp
      obtain ⟨q, _, rfl⟩ := List.mem_map.1 (stackR_sub _ p hp)
      exact q.2
    have hnn : w.heap.size ≤ W.heap.size := hB1.size
    gi_wp2
    gi_loopw [] (fun wr => ∃ st v, PopInv w W0 W n₀ Bx x.1 (stackR (pre.map (·.1))) (.func (.func 110) #[] #[]) wr st v) (fun wr => lenIn wr (w.heap.size + 1))
    case atStart => exact ⟨_, v, bO1, bD1, bX, hr1, rfl, Nat.le_refl _, hSM, Below.refl _ _, KeepsFrom.refl _ _⟩
    case round =>
      obtain ⟨st, v, hP⟩ := hrel
      clear bO1 bD1 bX hr1
      obtain ⟨A, cap', rfl⟩ := hP.at_.form
      have cO := fun d os => cell_regrown hP.out.cell d os
      have cD := fun d os => cell_regrown hP.drop.cell d os
      have cX := fun d os => cell_regrown hP.bx.x d os
      have cY := fun d os => cell_regrown hP.bx.y d os
      match st, hP with
      | [], hP =>
        have hst : popR x.1 [] = [] := rfl
        gi_wp2
        refine wpIn_round_quiet_below (by kernel_rfl) (by kernel_rfl) (by kernel_rfl) ?_
        repeat (go_big_quiet_step (fail))
        refine wpQuiet_nil ?_
        intro _ hw'
        obtain ⟨⟨dq, osq⟩, hw''⟩ := hw'
        subst hw''
        have hP2 := hP.grown hnn dq osq
        generalize grow (redrawn wr dq) osq = w2 at *
        clear hP cO cD cX cY
        have cO := hP2.out.cell
        have cX := hP2.bx.x
        have cY := hP2.bx.y
        have hle : w.heap.size ≤ w2.heap.size := Nat.le_trans hnn hP2.below.size
        have hlen2 : ([] : List Pt).length ≤ ps.length := by
          have e := hP2.pop
          rw [hst] at e
          have h1 := congrArg List.length e
          have h2 := (popR_suffix x.1 (stackR (pre.map (·.1)))).length_le
          have h3 := stackR_len (pre.map (·.1))
          simp at h1 h3
          simp only [List.length_cons, List.length_nil] at h1 h2 ⊢
          omega
        have hm1 : ([] : List Pt).length + 1 ≤ maxLen := by unfold maxLen; omega
        have hm2 : (([] : List Pt).length + 1) * 16 ≤ 140737488355328 := by omega
        have hm3 : ∀ o, w.heap.size ≤ (w2.alloc o).heap.size := fun o => by simp; omega
        have HP2 := Lib.hid hP2
        gi_wp2_with (gi_at_builtin; refine wpListIn_append_own _ rfl _ _ 77 rfl w.heap.size 57 i0 _ 2 16 Tryz.underlying77 hi hz0 hz1 hz2 rfl (by decide) _ _ _ rfl (hP2.at_.alloc _) ⟨w2.heap.size, 0, none⟩ 1 1 [.int .i64 x.1.1, .int .i64 x.1.2] rfl rfl (cell_two_new _ x.1 _) (encPt_one x.1) hm1 hm2 (hm3 _) ?_; (intro v' w1 hown' hgrow _; have HO := Lib.hid hown'; have HG := Lib.hid hgrow; obtain ⟨g', cap2, rfl⟩ := ownsRow_succ hown'; obtain ⟨hv1, hv2, hr2, hk2, hb2⟩ := hP2.out.appended (by decide) hP2.at_ hle (by omega) hown' hgrow; have hc1 := hv1.cell; have hf1 := hv1.frozen; clear hv1 hv2 hr2 hk2 hb2))
        obtain ⟨q1, q2, q3, q4⟩ := HP2.out.pushed hst hnn HO.out HG.out
        refine ⟨q1, q2.mono hn₀, ⟨?_, q4⟩, hB1.trans q2⟩
        rw [List.map_append, List.map_cons, List.map_nil, stackR_snoc]
        exact q3
      | [a], hP =>
        have hst : popR x.1 [a] = [a] := rfl
        gi_wp2
        refine wpIn_round_quiet_below (by kernel_rfl) (by kernel_rfl) (by kernel_rfl) ?_
        repeat (go_big_quiet_step (fail))
        refine wpQuiet_nil ?_
        intro _ hw'
        obtain ⟨⟨dq, osq⟩, hw''⟩ := hw'
        subst hw''
        have hP2 := hP.grown hnn dq osq
        generalize grow (redrawn wr dq) osq = w2 at *
        clear hP cO cD cX cY
        have cO := hP2.out.cell
        have cX := hP2.bx.x
        have cY := hP2.bx.y
        have hle : w.heap.size ≤ w2.heap.size := Nat.le_trans hnn hP2.below.size
        have hlen2 : [a].length ≤ ps.length := by
          have e := hP2.pop
          rw [hst] at e
          have h1 := congrArg List.length e
          have h2 := (popR_suffix x.1 (stackR (pre.map (·.1)))).length_le
          have h3 := stackR_len (pre.map (·.1))
          simp at h1 h3
          simp only [List.length_cons, List.length_nil] at h1 h2 ⊢
          omega
        have hm1 : [a].length + 1 ≤ maxLen := by unfold maxLen; omega
        have hm2 : ([a].length + 1) * 16 ≤ 140737488355328 := by omega
        have hm3 : ∀ o, w.heap.size ≤ (w2.alloc o).heap.size := fun o => by simp; omega
        have HP2 := Lib.hid hP2
        gi_wp2_with (gi_at_builtin; refine wpListIn_append_own _ rfl _ _ 77 rfl w.heap.size 57 i0 _ 2 16 Tryz.underlying77 hi hz0 hz1 hz2 rfl (by decide) _ _ _ rfl (hP2.at_.alloc _) ⟨w2.heap.size, 0, none⟩ 1 1 [.int .i64 x.1.1, .int .i64 x.1.2] rfl rfl (cell_two_new _ x.1 _) (encPt_one x.1) hm1 hm2 (hm3 _) ?_; (intro v' w1 hown' hgrow _; have HO := Lib.hid hown'; have HG := Lib.hid hgrow; obtain ⟨g', cap2, rfl⟩ := ownsRow_succ hown'; obtain ⟨hv1, hv2, hr2, hk2, hb2⟩ := hP2.out.appended (by decide) hP2.at_ hle (by omega) hown' hgrow; have hc1 := hv1.cell; have hf1 := hv1.frozen; clear hv1 hv2 hr2 hk2 hb2))
        obtain ⟨q1, q2, q3, q4⟩ := HP2.out.pushed hst hnn HO.out HG.out
        refine ⟨q1, q2.mono hn₀, ⟨?_, q4⟩, hB1.trans q2⟩
        rw [List.map_append, List.map_cons, List.map_nil, stackR_snoc]
        exact q3
      | b :: a :: l, hP =>
        obtain ⟨g, capo, hv, hO⟩ := hP.at_.own (by simp)
        injection hv with e1 _ e3
        subst e1; subst e3
        have hPa := cell_regrown (hO.x (i := l.length) (p := a) (by simp))
        have hPa' := cell_regrown (hO.y (i := l.length) (p := a) (by simp))
        have hPb := cell_regrown (hO.x (i := l.length + 1) (p := b) (by simp))
        have hPb' := cell_regrown (hO.y (i := l.length + 1) (p := b) (by simp))
        have hLL := hP.len
        have hLL2 := stackR_len (pre.map (·.1))
        simp only [List.length_cons, List.length_map] at hLL hLL2
        have hw1 : RowKit.wrap64 ((l.length : Int) + 1 + 1 - 2) = (l.length : Int) := by
          rw [IntWalk.wrap64_in _ (by omega)]; omega
        have hw2 : RowKit.wrap64 ((l.length : Int) + 1 + 1 - 1) = (l.length : Int) + 1 := by
          rw [IntWalk.wrap64_in _ (by omega)]; omega
        have hcl := hO.len
        simp only [List.length_reverse, List.length_cons] at hcl
        have hge1 : (2 : Int) ≤ (l.length : Int) + 1 + 1 := by omega
        cases hd : dropS a b x.1 with
        | true =>
          gi_wp2
          refine wpIn_round_quiet_below (by kernel_rfl) (by kernel_rfl) (by kernel_rfl) ?_
          repeat (go_big_quiet_step ((go_at_call 110; refine Calls.regrown_of (right_is a b x.1 (hP.sm _ (by simp)) (hP.sm _ (by simp)) x.2 true hd _))))
          refine wpQuiet_nil ?_
          intro _ hw'
          obtain ⟨⟨dq, osq⟩, hw''⟩ := hw'
          subst hw''
          have hP2 := hP.grown hnn dq osq
          generalize grow (redrawn wr dq) osq = w2 at *
          clear cO cD cX cY
          have cO := hP2.out.cell
          have fO := hP2.out.frozen
          have HP2 := Lib.hid hP2
          have hlo : lenIn wr (w.heap.size + 1) = l.length + 1 + 1 := by unfold lenIn; rw [hP.out.cell]; rfl
          gi_wp2
          go_roundw
          case rel => exact ⟨a :: l, _, HP2.out.popped hd hBx⟩
          case measure =>
            rw [hlo]
            unfold lenIn
            have e := (HP2.out.popped hd hBx).out.cell
            rw [List.length_cons] at e
            rw [e]
            exact Nat.lt_succ_self _
        | false =>
          have hst : popR x.1 (b :: a :: l) = b :: a :: l := by rw [popR, if_neg (by rw [hd]; simp)]
          gi_wp2
          refine wpIn_round_quiet_below (by kernel_rfl) (by kernel_rfl) (by kernel_rfl) ?_
          repeat (go_big_quiet_step ((go_at_call 110; refine Calls.regrown_of (right_is a b x.1 (hP.sm _ (by simp)) (hP.sm _ (by simp)) x.2 false hd _))))
          refine wpQuiet_nil ?_
          intro _ hw'
          obtain ⟨⟨dq, osq⟩, hw''⟩ := hw'
          subst hw''
          have hP2 := hP.grown hnn dq osq
          generalize grow (redrawn wr dq) osq = w2 at *
          clear hP cO cD cX cY
          have cO := hP2.out.cell
          have cX := hP2.bx.x
          have cY := hP2.bx.y
          have hle : w.heap.size ≤ w2.heap.size := Nat.le_trans hnn hP2.below.size
          have hlen2 : (b :: a :: l).length ≤ ps.length := by
            have e := hP2.pop
            rw [hst] at e
            have h1 := congrArg List.length e
            have h2 := (popR_suffix x.1 (stackR (pre.map (·.1)))).length_le
            have h3 := stackR_len (pre.map (·.1))
            simp at h1 h3
            simp only [List.length_cons, List.length_nil] at h1 h2 ⊢
            omega
          have hm1 : (b :: a :: l).length + 1 ≤ maxLen := by unfold maxLen; omega
          have hm2 : ((b :: a :: l).length + 1) * 16 ≤ 140737488355328 := by omega
          have hm3 : ∀ o, w.heap.size ≤ (w2.alloc o).heap.size := fun o => by simp; omega
          have HP2 := Lib.hid hP2
          gi_wp2_with (gi_at_builtin; refine wpListIn_append_own _ rfl _ _ 77 rfl w.heap.size 57 i0 _ 2 16 Tryz.underlying77 hi hz0 hz1 hz2 rfl (by decide) _ _ _ rfl (hP2.at_.alloc _) ⟨w2.heap.size, 0, none⟩ 1 1 [.int .i64 x.1.1, .int .i64 x.1.2] rfl rfl (cell_two_new _ x.1 _) (encPt_one x.1) hm1 hm2 (hm3 _) ?_; (intro v' w1 hown' hgrow _; have HO := Lib.hid hown'; have HG := Lib.hid hgrow; obtain ⟨g', cap2, rfl⟩ := ownsRow_succ hown'; obtain ⟨hv1, hv2, hr2, hk2, hb2⟩ := hP2.out.appended (by decide) hP2.at_ hle (by omega) hown' hgrow; have hc1 := hv1.cell; have hf1 := hv1.frozen; clear hv1 hv2 hr2 hk2 hb2))
          obtain ⟨q1, q2, q3, q4⟩ := HP2.out.pushed hst hnn HO.out HG.out
          refine ⟨q1, q2.mono hn₀, ⟨?_, q4⟩, hB1.trans q2⟩
          rw [List.map_append, List.map_cons, List.map_nil, stackR_snoc]
          exact q3
  case done =>
    rintro D zs W hD rfl ⟨⟨⟨v, bO1, hr1, _⟩, bD1⟩, hB1⟩ hK
    have cO := bO1.cell
    gi_wp2
    refine ⟨by simp, .inl ⟨_, _, rfl, run_takeDeferred hK, ?_⟩⟩
    exact ⟨_, results_tmp rfl _ _ _, v, rfl, ownsRow_putObj hr1 _ hK rfl, hB1.trans (belowK_b (w := w) (Nat.le_refl _) W D _ _ (by omega) hK rfl rfl)⟩
  case stop =>
    rintro D c pre W _ _ h _
    exact h.elim
end Go.Proofs.YtacmiobhnfeflaaGreat
