import Derived.Test.YtacmiobhnfeflaaGreatMethod
namespace Go.Proofs.YtacmiobhnfeflaaGreat
open Go.RowKit Go.Sort Go.Shelf
attribute [local go_sem] Oper.semAt_some

/-- The edges of a hull: for one point none, for two points both ways. -/
def edgesS (h : List Pt) : List (Pt × Pt) := if 1 < h.length then (List.range h.length).map fun i => (h[i]!, h[(i + 1) % h.length]!) else []

set_option maxRecDepth 100000 in
set_option maxHeartbeats 4000000 in
theorem edges1_in {α : Type} (val : α → Pt × Pt) (n : Nat) (hn : 1 ≤ n) (l b off n₀ cap : Nat) (h : List Pt) (h1 : 1 < h.length) (hl : h.length ≤ 1000000) (es : List α) (hes : es.map val = edgesS h) (hb : b < n₀) (J Jx : List α → World → Prop) (W : World) (hJ : AbidesFrom W.heap.size J) (hn₀ : n₀ ≤ W.heap.size)
    (hY : ∀ pre x W, J pre W → pre.length < es.length → YieldAt Fence.wide (n - 1) Tryz.prog l #[.agg #[.int .i64 (val x).1.1, .int .i64 (val x).1.2], .agg #[.int .i64 (val x).2.1, .int .i64 (val x).2.2]] W fun e W' =>
      (e = .returned (.bool true) ∧ J (pre ++ [x]) W' ∧ Below n₀ W W') ∨ (e = .returned (.bool false) ∧ Jx (pre ++ [x]) W'))
    (hP : PtsAt W n₀ (some ⟨b, off, none⟩) h) (h0 : J [] W) :
    CallsIn Fence.wide n Tryz.prog 69 #[.slice (some ⟨b, off, none⟩) h.length cap, .func (.yield l) #[] #[]] W fun e W' => (∃ v, e = .returned v) ∧
      ((∃ ys, ys = es ∧ J ys W') ∨ (∃ pre, pre <+: es ∧ Jx pre W')) := by
  have hlen : es.length = h.length := by
    have := congrArg List.length hes
    rw [List.length_map] at this
    rw [this, edgesS, if_pos h1]
    simp
  have hval : ∀ k x, es[k]? = some x → k < h.length ∧ h[k]? = some (val x).1 ∧ h[(k + 1) % h.length]? = some (val x).2 := by
    intro k x hx
    have hk : k < h.length := by rw [← hlen]; exact (List.getElem?_eq_some_iff.1 hx).1
    have hm : (k + 1) % h.length < h.length := Nat.mod_lt _ (by omega)
    have e : (es.map val)[k]? = some (val x) := by rw [List.getElem?_map, hx]; rfl
    rw [hes, edgesS, if_pos h1, List.getElem?_map, List.getElem?_range hk] at e
    injection e with e
    dsimp only at e
    rw [getElem!_pos h k hk, getElem!_pos h _ hm] at e
    rw [← e]
    exact ⟨hk, List.getElem?_eq_getElem hk, List.getElem?_eq_getElem hm⟩
  refine callsIn_of_wp Tryz.func69 rfl trivial ?_ rfl
  simp only [Tryz.ntmps69, List.size_toArray, List.length_cons, List.length_nil, Nat.reduceAdd, Nat.reduceSub, Array.replicate_succ, Array.replicate_zero, List.push_toArray, List.append_toArray, List.nil_append, List.cons_append]
  gi_wp2
  gi_loopw [8] (fun i wr => ∃ k : Nat, k ≤ es.length ∧ i = .int .i64 k ∧ J (es.take k) wr ∧ Below n₀ W wr)
    (fun i _ => es.length - (intOf i).toNat)
  case atStart => exact ⟨0, Nat.zero_le _, rfl, h0, Below.refl _ _⟩
  case round =>
    obtain ⟨k, hk, rfl, hJs, hnx⟩ := hrel
    by_cases hlt : k < h.length
    · obtain ⟨x, hx⟩ : ∃ x, es[k]? = some x := ⟨_, List.getElem?_eq_getElem (by omega)⟩
      obtain ⟨_, hv1, hv2⟩ := hval k x hx
      have hPr := hP.below hnx
      obtain ⟨b', off', hA, _, c0, c1⟩ := hPr k _ hv1
      injection hA with e1
      injection e1 with e1 e2
      subst e1; subst e2
      obtain ⟨b', off', hA, _, c2, c3⟩ := hPr _ _ hv2
      injection hA with e1
      injection e1 with e1 e2
      subst e1; subst e2
      have hbW : b < wr.heap.size := Nat.lt_of_lt_of_le hb (Nat.le_trans hn₀ hnx.size)
      have hJ1 : J (es.take k) (wr.alloc (.cells #[.int .i64 (val x).1.1, .int .i64 (val x).1.2] 57)) := hJ _ _ _ none hJs (World.grownBy_alloc wr _ none) (fun r e => by cases e)
      have hJ2 : J (es.take k) (wr.alloc (.cells #[.int .i64 (val x).1.1, .int .i64 (val x).1.2] 57)).drew := hJ _ _ _ none hJ1 ⟨rfl, rfl, rfl, Nat.le_refl _, fun _ _ _ => rfl⟩ (fun r e => by cases e)
      have hB1 : Below n₀ W (wr.alloc (.cells #[.int .i64 (val x).1.1, .int .i64 (val x).1.2] 57)).drew := below_drewN (hnx.alloc (Nat.le_trans hn₀ hnx.size) _) 1
      obtain ⟨fn, tmps, assign, body, hy, hR⟩ := hY _ x _ hJ2 (by rw [List.length_take]; omega)
      have HX := Lib.hid hx
      have HVAL := Lib.hid hval
      clear hx hval hv1 hv2 hPr hes
      have h1i : (1 : Int) < (h.length : Int) := by omega
      have hne : ¬ h = [] := by intro e; rw [e] at h1; simp at h1
      have hpos : ¬ ((h.length : Int) = 0) := by omega
      have hwr : IntKind.i64.wrap ((k : Int) + 1) = (k : Int) + 1 := IntWalk.i64_in _ (by omega)
      have hrem : Int.tmod ((k : Int) + 1) (h.length : Int) = (((k + 1) % h.length : Nat) : Int) := by
        rw [Int.tmod_eq_emod_of_nonneg (by omega)]
        norm_cast
      have hml : (k + 1) % h.length < h.length := Nat.mod_lt _ (by omega)
      generalize (k + 1) % h.length = m at *
      gi_wp2
      refine wpIn_still_tail (open_wide _ _) 14 (by kernel_rfl) (by kernel_rfl) (by kernel_rfl) ?_
      simp only [List.take_succ_cons, List.take_zero, List.drop_succ_cons, List.drop_zero]
      repeat still_step
      refine wpStill_nil ?_
      gi_wp2
      refine hR.mono ?_
      rintro e W3 (⟨rfl, hJ3, hk3⟩ | ⟨rfl, hJx3⟩)
      · gi_wp2
        go_roundw
        case rel => exact ⟨k + 1, by omega, by simp, by rw [← take_succ_get HX.out]; exact hJ3, hB1.trans hk3⟩
        case measure => simp [intOf]; omega
      · gi_wp2
        refine bodyPost_ret (results_none rfl _ _ _) rfl ?_
        refine ⟨⟨_, rfl⟩, .inr ⟨_, ?_, hJx3⟩⟩
        rw [take_succ_get HX.out]
        exact List.take_prefix _ _
    · obtain rfl : k = es.length := by omega
      gi_wp2
      go_end0
      exact ⟨⟨_, rfl⟩, .inl ⟨_, rfl, by rw [List.take_length] at hJs; exact hJs⟩⟩

section
variable {P : Program} {ops : Array Oper} {C : World → Prop} {F : Fence} {n : Nat} {md : Region.Mode}
theorem wpIn_open_of_quiet (hF : Open F n P) {o : Oper} {a : Act} {K : Act → Prop} {K' : Act → World → Prop} {Q' : Exit → Act → World → Prop} {w : World} (hd : ∀ c, o.op ≠ .defer c) (hw : C w) (h : ∀ a w', C w' → K a → K' a w')
    (hh : o.quiet P a C K) : o.wpIn F n P a w K' Q' := by
  obtain ⟨v, h1, h2⟩ := hh
  have h3 := h1 w hw
  unfold Oper.quietAt at h3
  refine ⟨fun _ _ => hF.fn _, ?_⟩
  rw [Oper.semAt_eq _ _ _ hd]
  generalize (execOp a.eval o).run P w = r at *
  cases r with
  | ok x w' =>
    cases x <;> simp only [Oper.quietUpon] at h3 <;> simp only [Oper.uponIn]
    case value u =>
      obtain ⟨e1, e2⟩ := h3
      rw [e1, e2]
      exact h _ _ hw h2
    case skip =>
      obtain ⟨e1, e2⟩ := h3
      rw [e1, ← e2]
      exact h _ _ hw h2
    case enter f args =>
      obtain ⟨e1, hc⟩ := h3
      rw [e1]
      refine ⟨fun hx => (by rw [hF.depth] at hx; simp at hx), ?_⟩
      refine (hF.calls _ _ _ _ hc).mono ?_
      rintro e w'' ⟨he, hw''⟩
      subst he
      exact h _ _ hw'' h2
  | halt x w' => simp only [Oper.quietUpon] at h3
theorem wpOpIn_open_of_qOp (hF : Open F n P) (hd : noDefer ops = true) {i : Nat} {a : Act} {K : Act → Prop} {K' : Act → World → Prop} {Q' : Exit → Act → World → Prop} {w : World} (hC : C w) (h : ∀ a w', C w' → K a → K' a w')
    (hh : qOp P ops C i K a) : wpOpIn F n P ops Q' i K' a w := by
  unfold qOp at hh
  unfold wpOpIn
  split
  · rename_i ho; simp only [ho] at hh; exact h _ _ hC hh
  · rename_i o ho
    simp only [ho] at hh
    split
    · rename_i hw; simp only [hw, if_true] at hh; exact wpIn_open_of_quiet hF (noDefer_spec hd ho) hC h hh
    · rename_i hw; simp only [hw] at hh; exact ⟨fun _ _ => hF.fn _, h _ _ hC hh⟩
theorem wpAnyIn_open_of_quiet (hF : Open F n P) (hd : noDefer ops = true) {Q : Act → Prop} {Q' : Exit → Act → World → Prop} (hQ : ∀ a w, C w → Q a → Q' .normal a w) : ∀ (fuel : Nat) (listed : Array Bool) (a : Act) (w : World), C w →
    wpAnyQ P md ops C Q fuel listed a → wpAnyIn F n P md ops Q' fuel listed a w
  | 0, _, _, _, hw, h => ⟨h.1, hQ _ _ hw h.2⟩
  | fuel + 1, _, _, _, hw, h => ⟨fun h0 => hQ _ _ hw (h.1 h0), fun i hi => wpOpIn_open_of_qOp hF hd hw (fun a' w' hw' => wpAnyIn_open_of_quiet hF hd hQ fuel _ a' w' hw') (h.2 i hi)⟩
theorem wpIn_open_quiet (hF : Open F n P) {id : Nat} {Q : Exit → Act → World → Prop} {a : Act} {w : World} {ll : List Oper} (hm : P.follows .mixedOrders = true) (hB : Region.lexB .any ll.toArray = true) (hd : noDefer ll.toArray = true)
    (h : wpQuiet P ll.toArray (fun w' => ∃ n, w' = w.drewN n) (fun a' => ∀ w', (∃ n, w' = w.drewN n) → Q .normal a' w') ll a) : (Code.region id ll.toArray true).wpIn F n P Q a w := by
  simp only [Region.lexB, Bool.and_eq_true] at hB
  refine wpIn_region_any hm (wpAnyIn_open_of_quiet hF hd (C := fun w' => ∃ n, w' = w.drewN n) (Q := fun a' => ∀ w', (∃ n, w' = w.drewN n) → Q .normal a' w') (fun _ w' hw' h => h w' hw') _ _ _ _ ⟨1, rfl⟩ ?_)
  have := wpAnyQ_lex (C := fun w' => ∃ n, w' = w.drewN n) (md := .any) hB.1 ll 0 (Array.replicate ll.toArray.size false) a (by simp) (by simpa using hB.2) h
  simpa using this
end

set_option maxRecDepth 100000 in
set_option maxHeartbeats 400000 in
/-- .. at one point: no round. -/
theorem edges1_one (n : Nat) (l b off n₀ cap : Nat) (p : Pt) {α : Type} (J : List α → World → Prop) (W : World) (hJ : AbidesFrom W.heap.size J) (hn₀ : n₀ ≤ W.heap.size)
    (hb : b < n₀) (hP : PtsAt W n₀ (some ⟨b, off, none⟩) [p]) (h0 : J [] W) :
    CallsIn Fence.wide n Tryz.prog 69 #[.slice (some ⟨b, off, none⟩) 1 cap, .func (.yield l) #[] #[]] W fun e W' => (∃ v, e = .returned v) ∧ J [] W' := by
  refine callsIn_of_wp Tryz.func69 rfl trivial ?_ rfl
  simp only [Tryz.ntmps69, List.size_toArray, List.length_cons, List.length_nil, Nat.reduceAdd, Nat.reduceSub, Array.replicate_succ, Array.replicate_zero, List.push_toArray, List.append_toArray, List.nil_append, List.cons_append]
  obtain ⟨b', off', hA, _, c0, c1⟩ := hP 0 p rfl
  injection hA with e1
  injection e1 with e1 e2
  subst e1; subst e2
  have hbW : b < W.heap.size := Nat.lt_of_lt_of_le hb hn₀
  have hJ1 : J [] (W.alloc (.cells #[.int .i64 p.1, .int .i64 p.2] 57)) := hJ _ _ _ none h0 (World.grownBy_alloc W _ none) (fun r e => by cases e)
  simp only [Nat.zero_mul, Nat.add_zero] at c0 c1
  gi_wp2
  refine wpIn_loop_rounds 2 ?_
  rw [roundsIn_succ]
  gi_wp2
  refine wpIn_open_quiet (open_wide _ _) (by kernel_rfl) (by kernel_rfl) (by kernel_rfl) ?_
  repeat (go_big_quiet_step (fail))
  refine wpQuiet_nil ?_
  intro _ hw'
  obtain ⟨nq, hw''⟩ := hw'
  subst hw''
  have hJ3 : J [] ((W.alloc (.cells #[.int .i64 p.1, .int .i64 p.2] 57)).drewN nq) := hJ _ _ _ none hJ1 ⟨rfl, rfl, rfl, Nat.le_refl _, fun _ _ _ => rfl⟩ (fun r e => by cases e)
  gi_wp2
  rw [roundsIn_succ]
  gi_wp2
  go_end0
  exact ⟨⟨_, rfl⟩, hJ3⟩

/-- The method value h.edges, at a loop over it. -/
theorem edges_stops {α : Type} (val : α → Pt × Pt) (n : Nat) (hn : 1 ≤ n) (b off n₀ cap : Nat) (h : List Pt) (h0 : h ≠ []) (hl : h.length ≤ 1000000) (es : List α) (hes : es.map val = edgesS h) (hb : b < n₀) (w : World) (hn₀ : n₀ ≤ w.heap.size)
    (hP : PtsAt w n₀ (some ⟨b, off, none⟩) h) :
    StopsM n Tryz.prog 69 #[.slice (some ⟨b, off, none⟩) h.length cap] (fun x : α => #[.agg #[.int .i64 (val x).1.1, .int .i64 (val x).1.2], .agg #[.int .i64 (val x).2.1, .int .i64 (val x).2.2]]) (Below n₀) (fun ys => ys = es) (fun pre => pre <+: es) es.length w := by
  intro l J Jx W hW hJ _ hY hJ0
  by_cases h1 : 1 < h.length
  · exact edges1_in val n hn l b off n₀ cap h h1 hl es hes hb J Jx W hJ (Nat.le_trans hn₀ hW.size) hY (hP.below (hW.mono hn₀)) hJ0
  · have he : es = [] := by
      rw [edgesS, if_neg h1] at hes
      exact List.map_eq_nil_iff.1 hes
    obtain ⟨p, rfl⟩ : ∃ p, h = [p] := by
      match h, h0, h1 with
      | [p], _, _ => exact ⟨p, rfl⟩
      | p :: q :: r, _, h1 => simp at h1
    refine (edges1_one n l b off n₀ cap p J W hJ (Nat.le_trans hn₀ hW.size) hb (hP.below (hW.mono hn₀)) hJ0).mono ?_
    rintro e W' ⟨he', hj⟩
    exact ⟨he', .inl ⟨_, rfl, by rw [he]; exact hj⟩⟩

end Go.Proofs.YtacmiobhnfeflaaGreat
