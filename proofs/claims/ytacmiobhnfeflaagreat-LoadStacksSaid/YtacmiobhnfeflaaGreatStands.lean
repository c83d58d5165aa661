import Derived.Test.YtacmiobhnfeflaaGreatStandsP
import Derived.BigRegion
namespace Go.Proofs.YtacmiobhnfeflaaGreat
open Go.RowKit Go.Sort Go.Shelf

/-- The cells of boxes. -/
def flatB (bs : List Bx) : List Value := bs.flatMap encB
theorem flatB_len (bs : List Bx) : (flatB bs).length = bs.length * 6 := by
  induction bs with
  | nil => rfl
  | cons b bs ih => simp [flatB, encB] at *; omega
theorem flatB_append (l m : List Bx) : flatB (l ++ m) = flatB l ++ flatB m := by simp [flatB]
theorem flatB_get (l : List Bx) (i : Nat) (b : Bx) (h : l[i]? = some b) (j : Nat) (hj : j < 6) : (flatB l)[i * 6 + j]? = (encB b)[j]? := by
  induction l generalizing i with
  | nil => simp at h
  | cons q l ih =>
    cases i with
    | zero =>
      simp at h
      subst h
      have : flatB (q :: l) = encB q ++ flatB l := by simp [flatB]
      rw [this, List.getElem?_append_left (by simp [encB]; omega)]
      congr 1
      omega
    | succ i =>
      have := ih i (by simpa using h)
      have e : flatB (q :: l) = encB q ++ flatB l := by simp [flatB]
      rw [e, List.getElem?_append_right (by simp [encB]; omega)]
      rw [← this]
      congr 1
      simp [encB]
      omega
theorem BxsAt.of_own {w : World} {base g cap : Nat} {bs : List Bx} (h : w.ownsRow base 66 6 (.slice (some ⟨g, 0, none⟩) bs.length cap) bs.length (flatB bs)) : BxsAt w w.heap.size (some ⟨g, 0, none⟩) bs := by
  intro i x hx
  have hlt : g < w.heap.size := by
    rcases h.2 with ⟨h0, _⟩ | ⟨g', cap', cur, hv, _, hh, _⟩
    · cases h0
    · injection hv with e1
      injection e1 with e1
      injection e1 with e1
      subst e1
      exact (Array.getElem?_eq_some_iff.1 hh).1
  have c : ∀ j v, j < 6 → (encB x)[j]? = some v → w.cell? ⟨g, i * 6 + j, none⟩ = some v := by
    intro j v hj hv
    have := h.cells (g := g) rfl (i * 6 + j) v (by rw [flatB_get bs i x hx j hj, hv])
    rwa [Addr.add_lit, Nat.zero_add] at this
  refine ⟨g, 0, rfl, hlt, ?_, ?_, ?_, ?_, ?_, ?_⟩
  · rw [Nat.zero_add]; exact c 0 _ (by decide) rfl
  · rw [Nat.zero_add]; exact c 1 _ (by decide) rfl
  · rw [Nat.zero_add]; exact c 2 _ (by decide) rfl
  · rw [Nat.zero_add]; exact c 3 _ (by decide) rfl
  · rw [Nat.zero_add]; exact c 4 _ (by decide) rfl
  · rw [Nat.zero_add]; exact c 5 _ (by decide) rfl

theorem isOver_unique {ps : List Pc} {i : Nat} {l m : List Nat} (h : IsOver ps i l) (k : IsOver ps i m) : l = m := by
  have hp : l.Perm m := by
    rw [List.perm_iff_count]
    intro a
    rw [h.2.1.count, k.2.1.count]
    by_cases ha : a ∈ l
    · rw [if_pos ha, if_pos ((k.2.2 a).2 ((h.2.2 a).1 ha))]
    · rw [if_neg ha, if_neg (fun e => ha ((h.2.2 a).2 ((k.2.2 a).1 e)))]
  exact hp.eq_of_pairwise (fun a b _ _ h1 h2 => Nat.le_antisymm h1 h2) h.1 k.1

/-- Does the piece stand? -/
def StandsPost (ps : List Pc) (i : Nat) (w : World) (e : Ending) (w' : World) : Prop :=
  ∃ t, e = .returned (.bool t) ∧ (∀ l, IsOver ps i l → t = standsS ps i l) ∧ (t = true → ps[i]!.z = 0 ∨ underS ps i ≠ []) ∧ Below w.heap.size w w'

theorem info_box : (Tryz.prog.info? 66).map (fun i => (i.zero, i.size, i.bytes)) = some (some (.agg #[.int .i64 0, .int .i64 0, .int .i64 0, .int .i64 0, .int .i64 0, .int .i64 0]), 6, 48) := by kernel_rfl
def areasTo (ps : List Pc) (i k : Nat) : List Bx := ((underS ps i).take k).map fun j => cutS (bxAt ps i) (bxAt ps j)

theorem BxIn.six {W : World} {B : Nat} {b : Bx} (h : BxIn W B b) : W.cell? ⟨B, 0, none⟩ = some (.int .i64 b.x0) ∧ W.cell? ⟨B, 1, none⟩ = some (.int .i64 b.y0) ∧ W.cell? ⟨B, 2, none⟩ = some (.int .i64 b.z0) ∧ W.cell? ⟨B, 3, none⟩ = some (.int .i64 b.x1) ∧ W.cell? ⟨B, 4, none⟩ = some (.int .i64 b.y1) ∧ W.cell? ⟨B, 5, none⟩ = some (.int .i64 b.z1) := by
  refine ⟨?_, ?_, ?_, ?_, ?_, ?_⟩ <;> (unfold World.cell?; rw [show W.heap[B]? = _ from h]; rfl)
theorem cells_new (w : World) (cs : List Value) (T : TypeId) : ∀ (j : Nat) (u : Value), cs[j]? = some u → (w.alloc (.cells cs.toArray T)).cell? ((⟨w.heap.size, 0, none⟩ : Addr).add j) = some u := by
  intro j u hj
  have hb : (w.alloc (.cells cs.toArray T)).heap[w.heap.size]? = some (.cells cs.toArray T (0, 0)) := heap_alloc_new w _
  rw [Addr.add_lit]
  unfold World.cell?
  rw [hb]
  simpa using hj
theorem encB_one (b : Bx) : ∀ u ∈ encB b, u.oneCell' = true := by
  intro u hu
  simp [encB] at hu
  rcases hu with rfl | rfl | rfl | rfl | rfl | rfl <;> rfl
theorem rows_apart {W : World} {b1 b2 s1 s2 n1 n2 : Nat} {e1 e2 : TypeId} {v1 v2 : Value} {x1 x2 : List Value} (h : W.ownsRow b1 e1 s1 v1 n1 x1) (k : W.ownsRow b2 e2 s2 v2 n2 x2) (hne : e1 ≠ e2) : v1.ownBlock = none ∨ v1.ownBlock ≠ v2.ownBlock := by
  rcases h.2 with ⟨rfl, _⟩ | ⟨g, cap, cur, rfl, _, hh, _⟩
  · exact .inl rfl
  · refine .inr ?_
    rcases k.2 with ⟨rfl, _⟩ | ⟨g', cap', cur', rfl, _, hh', _⟩
    · simp [Value.ownBlock]
    · intro e
      have e' : g = g' := by simpa [Value.ownBlock] using e
      subst e'
      rw [hh] at hh'
      simp at hh'
      exact hne hh'.2
theorem set_grown (W : World) (b o : Nat) (v : Value) : W.grownBy (W.setCell ⟨b, o, none⟩ v) (some b) :=
  ⟨rfl, rfl, rfl, (KeepsWalks.setCell W _ v).size, fun k _ hk => Below.heap_setCell _ _ _ k (fun e => hk (by rw [e]))⟩
/-- Two cells of one block are written, and an order is drawn. -/
def set2 (W : World) (b o1 o2 : Nat) (u v : Value) : World := ((W.setCell ⟨b, o1, none⟩ u).setCell ⟨b, o2, none⟩ v).drew
theorem set2_grown (W : World) (b o1 o2 : Nat) (u v : Value) : W.grownBy (set2 W b o1 o2 u v) (some b) :=
  grownBy_trans (set_grown W b o1 u) (grownBy_trans (set_grown _ b o2 v) ⟨rfl, rfl, rfl, Nat.le_refl _, fun _ _ _ => rfl⟩)
theorem heap_setCell_cells {W : World} {b o : Nat} {cs : Array Value} {t : TypeId} {fr : Nat × Nat} (h : W.heap[b]? = some (.cells cs t fr)) (v : Value) : (W.setCell ⟨b, o, none⟩ v).heap[b]? = some (.cells (cs.setIfInBounds o v) t fr) := by
  obtain ⟨hlt, hk⟩ := Array.getElem?_eq_some_iff.1 h
  show (W.heap.modify b _)[b]? = _
  rw [Array.getElem?_eq_getElem (by rw [Array.size_modify]; exact hlt), Array.getElem_modify_self, hk]
  rfl
theorem BxIn.setX {W : World} {B : Nat} {b : Bx} (h : BxIn W B b) (u v : Int) : BxIn (set2 W B 0 3 (.int .i64 u) (.int .i64 v)) B ⟨u, b.y0, b.z0, v, b.y1, b.z1⟩ := by
  have h1 := heap_setCell_cells (o := 0) h (.int .i64 u)
  have h2 := heap_setCell_cells (o := 3) h1 (.int .i64 v)
  exact h2
theorem BxIn.setY {W : World} {B : Nat} {b : Bx} (h : BxIn W B b) (u v : Int) : BxIn (set2 W B 1 4 (.int .i64 u) (.int .i64 v)) B ⟨b.x0, u, b.z0, b.x1, v, b.z1⟩ := by
  have h1 := heap_setCell_cells (o := 1) h (.int .i64 u)
  have h2 := heap_setCell_cells (o := 4) h1 (.int .i64 v)
  exact h2
theorem row_grown {W W' : World} {b base size n : Nat} {e : TypeId} {v : Value} {xs : List Value} (h : W.ownsRow base e size v n xs) (hg : W.grownBy W' (some b)) (hne : ∀ g, v.ownBlock = some g → g < b) : W'.ownsRow base e size v n xs :=
  h.kept hg (by
    cases hv : v.ownBlock with
    | none => exact .inl rfl
    | some g => exact .inr fun e => by have := hne g hv; injection e with e; omega)

theorem cellB {w : World} {g : Nat} {t : TypeId} {cs : Array Value} (h : Blk w g t cs) (i : Nat) (u : Value) (hu : cs[i]? = some u) : w.cell? ⟨g, i, none⟩ = some u := (h.cell i).trans hu
theorem row_grown' {W W' : World} {b base size n : Nat} {e : TypeId} {v : Value} {xs : List Value} (h : W.ownsRow base e size v n xs) (hg : W.grownBy W' (some b)) (hne : v.ownBlock ≠ some b) : W'.ownsRow base e size v n xs :=
  h.kept hg (.inr hne)

set_option maxRecDepth 100000 in
set_option maxHeartbeats 8000000 in
theorem stands_any (A : Option Addr) (cap : Nat) (ps : List Pc) (i : Nat) (hi : i < ps.length) (hn : ps.length ≤ 40) (hok : ∀ p ∈ ps, p.Ok) (ht : (totalS ps).m ≤ 16777216) (w : World) (hps : PcsAt w w.heap.size A ps) :
    Calls Tryz.prog 27 #[.slice A ps.length cap, .int .i64 (i : Int)] w (StandsPost ps i w) := by
  obtain ⟨i0, hi0, hz0, hz1, hz2⟩ := info_parts info_box
  obtain ⟨p, hp⟩ : ∃ p, p = ps[i] := ⟨_, rfl⟩
  have hpi : ps[i]? = some p := by rw [hp]; exact List.getElem?_eq_getElem hi
  have hpo : p.Ok := hp ▸ hok _ (List.getElem_mem _)
  have hpb : RowKit.Hid (bxAt ps i = p.box) := by show bxAt ps i = p.box; rw [hp]; exact bxAt_get ps i hi
  have hp! : RowKit.Hid (ps[i]! = p) := by show ps[i]! = p; rw [hp]; exact getElem!_pos ps i hi
  obtain ⟨b, off, rfl, hb, c0, c1, c2, c3, c4, c5, c6⟩ := hps i p hpi
  have HPI := Lib.hid hpi
  clear hp hpi
  by_cases hz : p.z = 0
  · have HS : RowKit.Hid (∀ l, standsS ps i l = true) := by
      intro l
      unfold standsS
      rw [hp!.out, if_pos hz]
    have HZ := Lib.hid hz
    go_enter Tryz.func27, Tryz.ntmps27
    go_wp2_with fail
    go_ret
    exact ⟨true, rfl, fun l _ => (HS.out l).symm, fun _ => .inl (by rw [hp!.out]; exact HZ.out), Below.refl _ _⟩
  · go_enter Tryz.func27, Tryz.ntmps27
    go_wp2_with fail
    (with_reducible refine (boxOf_any p hpo _).mono ?_)
    rintro e w1 ⟨rfl, hb1⟩
    go_wp2_with fail
    have hX1 : BxIn (w1.alloc (.cells #[.int .i64 p.box.x0, .int .i64 p.box.y0, .int .i64 p.box.z0, .int .i64 p.box.x1, .int .i64 p.box.y1, .int .i64 p.box.z1] 66)) w1.heap.size p.box := heap_alloc_new w1 _
    have hB1 : Below w.heap.size w (w1.alloc (.cells #[.int .i64 p.box.x0, .int .i64 p.box.y0, .int .i64 p.box.z0, .int .i64 p.box.x1, .int .i64 p.box.y1, .int .i64 p.box.z1] 66)) := hb1.alloc hb1.size _
    have hge1 := hb1.size
    have hw2 : w.heap.size ≤ (w1.alloc (.cells #[.int .i64 p.box.x0, .int .i64 p.box.y0, .int .i64 p.box.z0, .int .i64 p.box.x1, .int .i64 p.box.y1, .int .i64 p.box.z1] 66)).heap.size := by simp; omega
    have hBa2 : w1.heap.size < (w1.alloc (.cells #[.int .i64 p.box.x0, .int .i64 p.box.y0, .int .i64 p.box.z0, .int .i64 p.box.x1, .int .i64 p.box.y1, .int .i64 p.box.z1] 66)).heap.size := by simp
    generalize w1.heap.size = Ba at *
    generalize w1.alloc _ = w2 at *
    (with_reducible refine (under_any _ cap ps i hi hn hok _ ((hps.below hB1).more hB1.size)).mono ?_)
    rintro e w3 ⟨vu, rfl, hU3, hb3⟩
    have hX3 := hX1.below hb3 hX1.lt
    have hB3 := hB1.trans (hb3.mono hB1.size)
    clear hX1 hB1 hb3 hb1 c0 c1 c2 c3 c4 c5 c6
    by_cases hU : underS ps i = []
    · have HS : RowKit.Hid (∀ l, standsS ps i l = false) := by
        intro l
        unfold standsS
        rw [hp!.out, if_neg hz, if_pos hU]
      rw [hU] at hU3
      have hvu : ∃ A' c', vu = .slice A' 0 c' := by
        rcases hU3.2 with ⟨rfl, _⟩ | ⟨g, cap', cur, rfl, _⟩
        · exact ⟨_, _, rfl⟩
        · exact ⟨_, _, rfl⟩
      obtain ⟨A', c', rfl⟩ := hvu
      go_wp2_with fail
      refine wp_loop_rounds 1 ?_
      rw [rounds_succ]
      go_wp2_with fail
      go_ret
      exact ⟨false, rfl, fun l _ => (HS.out l).symm, fun h => (by cases h), hB3⟩
    · obtain ⟨gu, capu, hvu, hgu⟩ : ∃ gu capu, vu = .slice (some ⟨gu, 0, none⟩) (underS ps i).length capu ∧ w2.heap.size ≤ gu := by
        rcases hU3.2 with ⟨_, h0⟩ | ⟨g, cap', cur, hv, hg, _⟩
        · exact absurd (List.eq_nil_of_length_eq_zero h0) hU
        · exact ⟨g, cap', hv, hg⟩
      subst hvu
      have hUl : ∀ (k x : Nat), (underS ps i)[k]? = some x → x < ps.length := by
        intro k x hx
        have := List.mem_of_getElem? hx
        unfold underS at this
        exact List.mem_range.1 (List.mem_filter.1 this).1
      have HUL := Lib.hid hUl
      clear hUl
      have hUn : (underS ps i).length ≤ 40 := by
        have := List.length_filter_le (fun k => (bxAt ps i).rests (bxAt ps k)) (List.range ps.length)
        rw [List.length_range] at this
        unfold underS
        omega
      go_wp2_with fail
      go_loopg [6, 32] ((underS ps i).length) (fun m v c wr => ∃ k, RowKit.Hid (k + m = (underS ps i).length) ∧ c = .int .i64 (k : Nat) ∧ wr.ownsRow w2.heap.size 66 6 v (areasTo ps i k).length (flatB (areasTo ps i k)) ∧ wr.ownsRow w2.heap.size 3 1 (.slice (some ⟨gu, 0, none⟩) (underS ps i).length capu) (underS ps i).length (ints (underS ps i)) ∧ BxIn wr Ba p.box ∧ Below w.heap.size w wr)
      case atStart => exact ⟨0, by show 0 + _ = _; omega, rfl, World.ownsRow_nil _ _ _ _, hU3, hX3, hB3⟩
      case round =>
        obtain ⟨k, HK, rfl, hA, hUr, hXr, hB⟩ := hrel
        by_cases hlt : k < (underS ps i).length
        · obtain ⟨x, hx⟩ : ∃ x, (underS ps i)[k]? = some x := ⟨_, List.getElem?_eq_getElem hlt⟩
          have hxl := HUL.out k x hx
          have cu := own_int hUr hx
          obtain ⟨q, hq⟩ : ∃ q, q = ps[x] := ⟨_, rfl⟩
          have hqi : ps[x]? = some q := by rw [hq]; exact List.getElem?_eq_getElem hxl
          have hqo : q.Ok := hq ▸ hok _ (List.getElem_mem _)
          have hqb : RowKit.Hid (bxAt ps x = q.box) := by show bxAt ps x = q.box; rw [hq]; exact bxAt_get ps x hxl
          obtain ⟨b', off', hA', hb', d0, d1, d2, d3, d4, d5, d6⟩ := (hps.below hB) x q hqi
          obtain ⟨rfl, rfl⟩ : b = b' ∧ off = off' := by simpa using hA'
          have HX := Lib.hid hx
          clear hq hqi hA' hx hb'
          go_wp2_with fail
          (with_reducible refine (boxOf_any q hqo _).mono ?_)
          rintro e w4 ⟨rfl, hb4⟩
          have hA4 := own_below hA hb4
          have hU4 := own_below hUr hb4
          have hX4 := hXr.below hb4 hXr.lt
          have hB4 := hB.trans (hb4.mono hB.size)
          clear hA hUr hXr cu d0 d1 d2 d3 d4 d5 d6
          have hQ5 : BxIn (w4.alloc (.cells #[.int .i64 q.box.x0, .int .i64 q.box.y0, .int .i64 q.box.z0, .int .i64 q.box.x1, .int .i64 q.box.y1, .int .i64 q.box.z1] 66)) w4.heap.size q.box := heap_alloc_new w4 _
          have hA5 := hA4.alloc (.cells #[.int .i64 q.box.x0, .int .i64 q.box.y0, .int .i64 q.box.z0, .int .i64 q.box.x1, .int .i64 q.box.y1, .int .i64 q.box.z1] 66)
          have hU5 := hU4.alloc (.cells #[.int .i64 q.box.x0, .int .i64 q.box.y0, .int .i64 q.box.z0, .int .i64 q.box.x1, .int .i64 q.box.y1, .int .i64 q.box.z1] 66)
          have hX5 := hX4.alloc' (.cells #[.int .i64 q.box.x0, .int .i64 q.box.y0, .int .i64 q.box.z0, .int .i64 q.box.x1, .int .i64 q.box.y1, .int .i64 q.box.z1] 66)
          have hB5 := hB4.alloc hB4.size (.cells #[.int .i64 q.box.x0, .int .i64 q.box.y0, .int .i64 q.box.z0, .int .i64 q.box.x1, .int .i64 q.box.y1, .int .i64 q.box.z1] 66)
          have hne5 : Ba ≠ w4.heap.size := Nat.ne_of_lt hX4.lt
          have hge5 := hB4.size
          have hAl : ∀ g, u6.ownBlock = some g → g < w4.heap.size := fun g hg => (hA4.lt g hg).2
          have hUlt : ∀ g, (Value.slice (some ⟨gu, 0, none⟩) (underS ps i).length capu).ownBlock = some g → g < w4.heap.size := fun g hg => (hU4.lt g hg).2
          clear hA4 hU4 hX4 hB4 hb4
          go_wp2_with fail
          generalize w4.heap.size = Bb at *
          generalize w4.alloc _ = w5 at *
          have hG6 := set2_grown w5 Bb 0 3 (.int .i64 (max p.box.x0 q.box.x0)) (.int .i64 (min p.box.x1 q.box.x1))
          have hQ6 := hQ5.setX (max p.box.x0 q.box.x0) (min p.box.x1 q.box.x1)
          have hX6 := hX5.kept hG6 (by simp; exact hne5)
          obtain ⟨a0, a1, a3, a4⟩ := hX5.cells
          obtain ⟨e0, e1, e3, e4⟩ := hQ5.cells
          have fB : ∀ j, w5.frozen? ⟨Bb, j, none⟩ = false := fun j => by
            simp [World.frozen?, show w5.heap[Bb]? = _ from hQ5]
          obtain ⟨b0, b1, b3, b4⟩ := hX6.cells
          obtain ⟨g0, g1, g3, g4⟩ := hQ6.cells
          have fB6 : ∀ j, (set2 w5 Bb 0 3 (.int .i64 (max p.box.x0 q.box.x0)) (.int .i64 (min p.box.x1 q.box.x1))).frozen? ⟨Bb, j, none⟩ = false := fun j => by
            simp [World.frozen?, show (set2 w5 Bb 0 3 (.int .i64 (max p.box.x0 q.box.x0)) (.int .i64 (min p.box.x1 q.box.x1))).heap[Bb]? = _ from hQ6]
          obtain ⟨w6, hw6⟩ : ∃ w6, w6 = set2 w5 Bb 0 3 (.int .i64 (max p.box.x0 q.box.x0)) (.int .i64 (min p.box.x1 q.box.x1)) := ⟨_, rfl⟩
          rw [← hw6] at b0 b1 b3 b4 g0 g1 g3 g4 fB6 hG6 hQ6 hX6
          have HW6 := Lib.hid hw6
          clear hw6
          go_loopg [41] 2 (fun m c wr => (m = 2 ∧ c = .int .i64 0 ∧ wr = w5) ∨ (m = 1 ∧ c = .int .i64 1 ∧ wr = w6) ∨ (m = 0 ∧ c = .int .i64 2 ∧ wr = set2 w6 Bb 1 4 (.int .i64 (max p.box.y0 q.box.y0)) (.int .i64 (min p.box.y1 q.box.y1))))
          case atStart => exact .inl ⟨rfl, rfl, rfl⟩
          case round =>
            rcases hrel with ⟨rfl, rfl, rfl⟩ | ⟨rfl, rfl, rfl⟩ | ⟨rfl, rfl, rfl⟩
            · go_wp2_with fail
              go_big_region
              go_wp2_with fail
              go_roundg 1
              case measure => omega
              case rel => exact .inr (.inl ⟨rfl, by go_num, HW6.out.symm⟩)
            · go_wp2_with fail
              go_big_region
              go_wp2_with fail
              go_roundg 0
              case measure => omega
              case rel => exact .inr (.inr ⟨rfl, by go_num, rfl⟩)
            · have hA6 := row_grown hA5 hG6 hAl
              have hU6 := row_grown hU5 hG6 hUlt
              have hB6 := hB5.grown hG6 hB5.size (fun g e => by cases e; exact hge5)
              have hG7 := set2_grown w6 Bb 1 4 (.int .i64 (max p.box.y0 q.box.y0)) (.int .i64 (min p.box.y1 q.box.y1))
              have hQ7 := hQ6.setY (max p.box.y0 q.box.y0) (min p.box.y1 q.box.y1)
              have hA7 := row_grown hA6 hG7 hAl
              have hU7 := row_grown hU6 hG7 hUlt
              have hX7 := hX6.kept hG7 (by simp; exact hne5)
              have hB7 := hB6.grown hG7 hB6.size (fun g e => by cases e; exact hge5)
              generalize set2 w6 _ _ _ _ _ = w7 at *
              clear hG6 hG7 hQ5 hQ6 hA5 hA6 hU5 hU6 hX5 hX6 hB5 hB6 a0 a1 a3 a4 e0 e1 e3 e4 fB b0 b1 b3 b4 g0 g1 g3 g4 fB6 HW6
              have hQ8 : BxIn w7 Bb (cutS p.box q.box) := hQ7
              obtain ⟨qc, hqc⟩ : ∃ qc, qc = cutS p.box q.box := ⟨_, rfl⟩
              rw [← hqc] at hQ8
              have HQC := Lib.hid hqc
              clear hqc
              obtain ⟨k0, k1, k2, k3, k4, k5⟩ := hQ8.six
              have hm1 : (areasTo ps i k).length + 1 ≤ maxLen := by
                unfold maxLen areasTo
                rw [List.length_map, List.length_take]
                omega
              have hm2 : ((areasTo ps i k).length + 1) * 48 ≤ 140737488355328 := by
                unfold areasTo
                rw [List.length_map, List.length_take]
                omega
              have hm3 : ∀ o, w2.heap.size ≤ (w7.alloc o).heap.size := fun o => by
                have := hU7.lt gu rfl
                simp
                omega
              clear hQ7
              go_wp2_with (at_builtin; refine wpList_append_own _ rfl _ _ 89 rfl w2.heap.size 66 i0 _ 6 48 Tryz.underlying89 hi0 hz0 hz1 hz2 rfl (by decide) _ _ _ rfl (hA7.alloc _) ⟨w7.heap.size, 0, none⟩ 1 1 (encB qc) rfl rfl (cells_new w7 (encB qc) _) (encB_one qc) hm1 hm2 (hm3 _) ?_)
              intro v' w8 hA8 hG8 _
              have hB8 : Below w.heap.size w w8 := (hB7.alloc hB7.size _).grown hG8 (by have := hB7.size; simp; omega) (fun g e => Nat.le_trans hw2 (hA7.block_ge e))
              have hU8 := (hU7.alloc (.cells #[.int .i64 qc.x0, .int .i64 qc.y0, .int .i64 qc.z0, .int .i64 qc.x1, .int .i64 qc.y1, .int .i64 qc.z1] 66)).kept hG8 (rows_apart hU7 hA7 (by decide))
              have hX8 := (hX7.alloc' (.cells #[.int .i64 qc.x0, .int .i64 qc.y0, .int .i64 qc.z0, .int .i64 qc.x1, .int .i64 qc.y1, .int .i64 qc.z1] 66)).kept hG8 (fun e => by have := hA7.block_ge e.symm; omega)
              go_wp2_with fail
              go_roundg (gk - 1)
              case measure => have := HK.out; omega
              case rel =>
                refine ⟨k + 1, by show k + 1 + (gk - 1) = (underS ps i).length; have := HK.out; omega, by go_num, ?_, hU8, hX8, hB8⟩
                have e : areasTo ps i (k + 1) = areasTo ps i k ++ [qc] := by
                  unfold areasTo
                  rw [← take_succ_get HX.out, List.map_append, List.map_cons, List.map_nil, HQC.out, hpb.out, hqb.out]
                have e2 : flatB [qc] = encB qc := by simp [flatB]
                rw [e, flatB_append, e2, List.length_append]
                exact hA8
        · obtain rfl : k = (underS ps i).length := by have := HK.out; omega
          clear HK hUr
          have hAr : areasTo ps i (underS ps i).length = areasS ps i := by unfold areasTo areasS; rw [List.take_length]
          rw [hAr] at hA
          have hAn : (areasS ps i).length = (underS ps i).length := by unfold areasS; rw [List.length_map]
          have hA0 : 0 < (areasS ps i).length := by rw [hAn]; exact List.length_pos_iff.2 hU
          obtain ⟨ga, capa, hva, hga⟩ : ∃ ga capa, u6 = .slice (some ⟨ga, 0, none⟩) (areasS ps i).length capa ∧ w2.heap.size ≤ ga := by
            rcases hA.2 with ⟨_, h0⟩ | ⟨g, cap', cur, hv, hg, _⟩
            · omega
            · exact ⟨g, cap', hv, hg⟩
          subst hva
          have hAm : (areasS ps i).length ≤ 40 := by omega
          clear hAn
          go_wp2_with fail
          have hW1 : Blk (wr.alloc (.cells #[.int .i64 0, .int .i64 0, .int .i64 0, .int .i64 0] 49)) wr.heap.size 49 #[.int .i64 0, .int .i64 0, .int .i64 0, .int .i64 0] := Blk.new wr _ _
          have hA1 := hA.alloc (.cells #[.int .i64 0, .int .i64 0, .int .i64 0, .int .i64 0] 49)
          have hBw := hB.alloc hB.size (.cells #[.int .i64 0, .int .i64 0, .int .i64 0, .int .i64 0] 49)
          have hgB := hB.size
          have hgl := (hA.lt ga rfl).2
          generalize wr.heap.size = Bw at *
          generalize wr.alloc _ = wa at *
          (with_reducible refine (over_any _ cap ps i hi hn hok _ ((hps.below hBw).more hBw.size)).mono ?_)
          rintro e wb ⟨vo, l, rfl, hIO, hO, hbo⟩
          have hW2 := hW1.below hbo hW1.lt
          have hA2 := own_below hA1 hbo
          have hB2 := hBw.trans (hbo.mono hBw.size)
          have hil : i ∈ l := (hIO.2.2 i).2 .refl
          obtain ⟨go, capo, hvo, hgo⟩ : ∃ go capo, vo = .slice (some ⟨go, 0, none⟩) l.length capo ∧ wa.heap.size ≤ go := by
            rcases hO.2 with ⟨_, h0⟩ | ⟨g, cap', cur, hv, hg, _⟩
            · rw [List.eq_nil_of_length_eq_zero h0] at hil
              cases hil
            · exact ⟨g, cap', hv, hg⟩
          subst hvo
          have hll : ∀ x ∈ l, x < ps.length := fun x hx => ((hIO.2.2 x).1 hx).lt hi
          have hln : l.length ≤ ps.length := by
            have := List.Nodup.length_le_of_subset (l₂ := List.range ps.length) hIO.2.1 (fun x hx => List.mem_range.2 (hll x hx))
            simpa using this
          have hBwlt := hW1.lt
          clear hA hA1 hB hW1 hBw hbo
          go_wp2_with fail
          go_loopg [81] (l.length) (fun m c wr => ∃ k, RowKit.Hid (k + m = l.length) ∧ c = .int .i64 (k : Nat) ∧ Blk wr Bw 49 #[.int .i64 (wtOf ps (l.take k)).m, .int .i64 (wtOf ps (l.take k)).a, .int .i64 (wtOf ps (l.take k)).b, .int .i64 (wtOf ps (l.take k)).c] ∧ wr.ownsRow w2.heap.size 66 6 (.slice (some ⟨ga, 0, none⟩) (areasS ps i).length capa) (areasS ps i).length (flatB (areasS ps i)) ∧ wr.ownsRow wa.heap.size 3 1 (.slice (some ⟨go, 0, none⟩) l.length capo) l.length (ints l) ∧ Below w.heap.size w wr)
          case atStart => exact ⟨0, by show 0 + _ = _; omega, rfl, hW2, hA2, hO, hB2⟩
          case round =>
            obtain ⟨k, HK, rfl, hW, hA, hL, hB⟩ := hrel
            by_cases hlt : k < l.length
            · obtain ⟨x, hx⟩ : ∃ x, l[k]? = some x := ⟨_, List.getElem?_eq_getElem hlt⟩
              have hxl := hll x (List.mem_of_getElem? hx)
              have cu := own_int hL hx
              obtain ⟨q, hq⟩ : ∃ q, q = ps[x] := ⟨_, rfl⟩
              have hqi : ps[x]? = some q := by rw [hq]; exact List.getElem?_eq_getElem hxl
              have hqo : q.Ok := hq ▸ hok _ (List.getElem_mem _)
              have hq! : RowKit.Hid (ps[x]! = q) := by show ps[x]! = q; rw [hq]; exact getElem!_pos ps x hxl
              obtain ⟨b', off', hA', hb', d0, d1, d2, d3, d4, d5, d6⟩ := (hps.below hB) x q hqi
              obtain ⟨rfl, rfl⟩ : b = b' ∧ off = off' := by simpa using hA'
              have HX := Lib.hid hx
              have hsm : (wtOf ps (l.take k)).Sm := by
                have h1 := wtOf_bd hok (l.take k) (fun y hy => hll y (List.mem_of_mem_take hy))
                have h2 := wtOf_le hok (l.take k) (hIO.2.1.sublist (List.take_sublist _ _)) (fun y hy => hll y (List.mem_of_mem_take hy))
                exact h1.sm (by omega)
              clear hq hqi hA' hx hb'
              go_wp2_with fail
              (with_reducible refine (add_any Bw _ q hqo hsm _ hW).mono ?_)
              rintro e w4 ⟨rfl, hW4, hG4⟩
              have hA4 := row_grown' hA hG4 (by simp [Value.ownBlock]; omega)
              have hL4 := row_grown' hL hG4 (by simp [Value.ownBlock]; omega)
              have hB4 := hB.grown hG4 hB.size (fun g e => by cases e; exact hgB)
              clear d0 d1 d2 d3 d4 d5 d6 cu
              go_wp2_with fail
              go_roundg (gk - 1)
              case measure => have := HK.out; omega
              case rel =>
                refine ⟨k + 1, by show k + 1 + (gk - 1) = l.length; have := HK.out; omega, by go_num, ?_, hA4, hL4, hB4⟩
                rw [wtOf_take ps l k x HX.out, hq!.out]
                exact hW4
            · obtain rfl : k = l.length := by have := HK.out; omega
              rw [List.take_length] at hW
              clear HK hL
              have hST : RowKit.Hid (standsS ps i l = containsS (cornersS (csOf (areasS ps i))) (wtS ps i l).a (wtS ps i l).b (2 * (wtS ps i l).m)) := by
                show standsS ps i l = _
                unfold standsS
                rw [hp!.out, if_neg hz, if_neg hU]
              have hcs0 : csOf (areasS ps i) ≠ [] := by
                intro e
                have := congrArg List.length e
                rw [csOf_len] at this
                simp at this
                omega
              have hcl : (cornersS (csOf (areasS ps i))).length ≤ 1000000 := by
                have h1 := cornersS_len (csOf (areasS ps i))
                rw [csOf_len] at h1
                omega
              have hCO := stands_conOk hok i hi l hIO.2.1 hll ht
              have hbd := wtOf_bd hok l hll
              have hle := wtOf_le hok l hIO.2.1 hll
              by_cases hm : (wtOf ps l).m = 0
              · have hwt : wtS ps i l = (wtOf ps l).add { p with m := 1 } := by
                  unfold wtS
                  rw [if_pos hm, hp!.out]
                rw [hwt] at hCO hST
                have HS := hST
                have hq0 : ({ p with m := 1 } : Pc).Ok := ⟨hpo.x1, hpo.x2, hpo.y1, hpo.y2, hpo.z1, hpo.z2, hpo.l1, hpo.l2, hpo.w1, hpo.w2, hpo.h1, hpo.h2, (by show (0 : Int) ≤ 1; decide), (by show (1 : Int) ≤ 16777216; decide)⟩
                have hsm := hbd.sm (by omega)
                have hTm : ((wtOf ps l).add { p with m := 1 }).m = 1 := by
                  show (wtOf ps l).m + 1 = 1
                  omega
                have z0 := cellB hW 0 (.int .i64 (wtOf ps l).m) rfl
                rw [hm] at z0
                obtain ⟨b', off', hA', hb', d0, d1, d2, d3, d4, d5, d6⟩ := (hps.below hB) i p HPI.out
                obtain ⟨rfl, rfl⟩ : b = b' ∧ off = off' := by simpa using hA'
                clear hA'
                have hWq := hW.alloc (.cells #[.int .i64 p.x, .int .i64 p.y, .int .i64 p.z, .int .i64 p.l, .int .i64 p.w, .int .i64 p.h, .int .i64 1] 36)
                have hAq := hA.alloc (.cells #[.int .i64 p.x, .int .i64 p.y, .int .i64 p.z, .int .i64 p.l, .int .i64 p.w, .int .i64 p.h, .int .i64 1] 36)
                have hBq := hB.alloc hB.size (.cells #[.int .i64 p.x, .int .i64 p.y, .int .i64 p.z, .int .i64 p.l, .int .i64 p.w, .int .i64 p.h, .int .i64 1] 36)
                go_wp2_with fail
                (with_reducible refine (add_any Bw _ { p with m := 1 } hq0 hsm _ hWq).mono ?_)
                clear hW hA hB z0 d0 d1 d2 d3 d4 d5 d6
                rintro e w4 ⟨rfl, hW, hG4⟩
                have hA := row_grown' hAq hG4 (by simp [Value.ownBlock]; omega)
                have hB := hBq.grown hG4 hBq.size (fun g e => by cases e; exact hgB)
                clear hWq hAq hBq hG4
                have hw2m : IntKind.i64.wrap (2 * ((wtOf ps l).add { p with m := 1 }).m) = 2 * ((wtOf ps l).add { p with m := 1 }).m := IntWalk.i64_in _ (by omega)
                generalize (wtOf ps l).add { p with m := 1 } = T at *
                obtain ⟨TM, TA, TB, TC⟩ := T
                dsimp only at hCO HS hw2m hW
                clear hTm
                have z0 := cellB hW 0 (.int .i64 TM) rfl
                have z1 := cellB hW 1 (.int .i64 TA) rfl
                have z2 := cellB hW 2 (.int .i64 TB) rfl
                have HW := Lib.hid hW
                go_wp2_with fail
                (with_reducible refine (outline_any (some ⟨ga, 0, none⟩) capa (areasS ps i) (by omega) _ (BxsAt.of_own hA)).mono ?_)
                rintro e w5 ⟨vh, rfl, hb5, _, hh5⟩
                obtain ⟨gh, caph, rfl, hH5⟩ := hh5 (areas_hull hok i hi hn hU)
                have hW5 := HW.out.below hb5 HW.out.lt
                have y0 := cellB hW5 0 (.int .i64 TM) rfl
                have y1 := cellB hW5 1 (.int .i64 TA) rfl
                have y2 := cellB hW5 2 (.int .i64 TB) rfl
                have hB5 := hB.trans (hb5.mono hB.size)
                go_wp2_with fail
                (with_reducible refine (contains_any gh 0 caph (cornersS (csOf (areasS ps i))) (cornersS_ne _ hcs0) hcl TA TB (2 * TM) hCO _ (PtsAt.of_own hH5.own) hH5.lt).mono ?_)
                rintro e w6 ⟨rfl, hb6⟩
                go_wp2_with fail
                go_ret
                refine ⟨_, rfl, fun l' hl' => ?_, fun _ => .inr hU, hB5.trans (hb6.mono hB5.size)⟩
                rw [isOver_unique hl' hIO]
                exact HS.out.symm
              · have hwt : wtS ps i l = wtOf ps l := if_neg hm
                rw [hwt] at hCO hST
                have HS := hST
                have hw2m : IntKind.i64.wrap (2 * (wtOf ps l).m) = 2 * (wtOf ps l).m := IntWalk.i64_in _ (by have := hbd.m; omega)
                generalize wtOf ps l = T at *
                obtain ⟨TM, TA, TB, TC⟩ := T
                dsimp only at hm hCO HS hw2m hW
                have z0 := cellB hW 0 (.int .i64 TM) rfl
                have z1 := cellB hW 1 (.int .i64 TA) rfl
                have z2 := cellB hW 2 (.int .i64 TB) rfl
                have HW := Lib.hid hW
                go_wp2_with fail
                (with_reducible refine (outline_any (some ⟨ga, 0, none⟩) capa (areasS ps i) (by omega) _ (BxsAt.of_own hA)).mono ?_)
                rintro e w5 ⟨vh, rfl, hb5, _, hh5⟩
                obtain ⟨gh, caph, rfl, hH5⟩ := hh5 (areas_hull hok i hi hn hU)
                have hW5 := HW.out.below hb5 HW.out.lt
                have y0 := cellB hW5 0 (.int .i64 TM) rfl
                have y1 := cellB hW5 1 (.int .i64 TA) rfl
                have y2 := cellB hW5 2 (.int .i64 TB) rfl
                have hB5 := hB.trans (hb5.mono hB.size)
                go_wp2_with fail
                (with_reducible refine (contains_any gh 0 caph (cornersS (csOf (areasS ps i))) (cornersS_ne _ hcs0) hcl TA TB (2 * TM) hCO _ (PtsAt.of_own hH5.own) hH5.lt).mono ?_)
                rintro e w6 ⟨rfl, hb6⟩
                go_wp2_with fail
                go_ret
                refine ⟨_, rfl, fun l' hl' => ?_, fun _ => .inr hU, hB5.trans (hb6.mono hB5.size)⟩
                rw [isOver_unique hl' hIO]
                exact HS.out.symm

end Go.Proofs.YtacmiobhnfeflaaGreat
