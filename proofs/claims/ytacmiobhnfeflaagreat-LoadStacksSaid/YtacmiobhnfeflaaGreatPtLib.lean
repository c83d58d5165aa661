import Derived.Test.YtacmiobhnfeflaaGreatCmp
import Derived.Lib.OwnBridge
import Derived.Sort.OwnSortedInts
namespace Go.Proofs.YtacmiobhnfeflaaGreat
open Go.RowKit Go.Sort

instance : Inhabited Pt := ⟨(0, 0)⟩

theorem flat_getD (l : List Pt) (t : Nat) (ht : t < l.length * 2) : (flat l)[t]! = (encPt l.toArray[t / 2]!)[t % 2]! := by
  have h1 : t / 2 < l.length := by omega
  have hp : l[t / 2]? = some l[t / 2] := List.getElem?_eq_getElem h1
  have hq : l.toArray[t / 2]! = l[t / 2] := by simp [h1]
  have hl := flat_len l
  rcases Nat.mod_two_eq_zero_or_one t with h | h
  · have e : t = t / 2 * 2 := by omega
    have := flat_get0 l (t / 2) _ hp
    rw [← e] at this
    rw [getElem!_pos _ _ (by omega), hq, h]
    rw [List.getElem?_eq_getElem (by omega)] at this
    exact Option.some.inj this
  · have e : t = t / 2 * 2 + 1 := by omega
    have := flat_get1 l (t / 2) _ hp
    rw [← e] at this
    rw [getElem!_pos _ _ (by omega), hq, h]
    rw [List.getElem?_eq_getElem (by omega)] at this
    exact Option.some.inj this
theorem flatK_flat (l : List Pt) : flatK encPt 2 l.toArray = (flat l).toArray := by
  refine ext_get! (by simp [flat_len]) fun t ht => ?_
  have ht' : t < l.length * 2 := by simpa using ht
  rw [get_flatK _ _ _ _ (by simpa using ht')]
  rw [← flat_getD l t ht']
  simp

/-- A slice of points in the call's own memory. -/
structure OwnP (w : World) (base g cap : Nat) (ps : List Pt) : Prop where
  own : w.ownsRow base 57 2 (.slice (some ⟨g, 0, none⟩) ps.length cap) ps.length (flat ps)

/-- What an own slice lies in. -/
theorem OwnP.parts {w : World} {base g cap : Nat} {ps : List Pt} (h : OwnP w base g cap ps) :
    ∃ cur, base ≤ g ∧ w.heap[g]? = some (.cells cur 57 (0, 0)) ∧ ps.length ≤ cap ∧ cap ≤ maxLen ∧ cur.size = cap * 2 ∧ cur.toList.take (ps.length * 2) = flat ps := by
  rcases h.own.2 with ⟨h0, _⟩ | ⟨g', cap', cur, hv, hb, hh, h1, h2, h3, h4⟩
  · cases h0
  · injection hv with e1 _ e3
    injection e1 with e1
    injection e1 with e1
    subst e1; subst e3
    exact ⟨cur, hb, hh, h1, h2, h3, h4⟩
theorem OwnP.lt {w : World} {base g cap : Nat} {ps : List Pt} (h : OwnP w base g cap ps) : g < w.heap.size := by
  obtain ⟨cur, _, hh, _⟩ := h.parts
  exact (Array.getElem?_eq_some_iff.1 hh).1
theorem OwnP.ge {w : World} {base g cap : Nat} {ps : List Pt} (h : OwnP w base g cap ps) : base ≤ g := by
  obtain ⟨cur, h, _⟩ := h.parts
  exact h
theorem OwnP.len {w : World} {base g cap : Nat} {ps : List Pt} (h : OwnP w base g cap ps) : ps.length ≤ cap := by
  obtain ⟨cur, _, _, h, _⟩ := h.parts
  exact h
theorem OwnP.capLe {w : World} {base g cap : Nat} {ps : List Pt} (h : OwnP w base g cap ps) : cap ≤ maxLen := by
  obtain ⟨cur, _, _, _, h, _⟩ := h.parts
  exact h
theorem OwnP.cell {w : World} {base g cap : Nat} {ps : List Pt} (h : OwnP w base g cap ps) (j : Nat) (u : Value) (hj : (flat ps)[j]? = some u) : w.cell? ⟨g, j, none⟩ = some u := by
  have := h.own.cells (g := g) rfl j u hj
  rwa [Addr.add_lit, Nat.zero_add] at this
theorem OwnP.x {w : World} {base g cap : Nat} {ps : List Pt} (h : OwnP w base g cap ps) {i : Nat} {p : Pt} (hp : ps[i]? = some p) : w.cell? ⟨g, i * 2, none⟩ = some (.int .i64 p.1) := h.cell _ _ (flat_get0 ps i p hp)
theorem OwnP.y {w : World} {base g cap : Nat} {ps : List Pt} (h : OwnP w base g cap ps) {i : Nat} {p : Pt} (hp : ps[i]? = some p) : w.cell? ⟨g, i * 2 + 1, none⟩ = some (.int .i64 p.2) := h.cell _ _ (flat_get1 ps i p hp)
theorem OwnP.holds {w : World} {base g cap : Nat} {ps : List Pt} (h : OwnP w base g cap ps) : HoldsK encPt 2 w g 0 ps.toArray := by
  obtain ⟨cur, hb, hh, h1, h2, h3, h4⟩ := h.parts
  show Holds id w g 0 _
  rw [flatK_flat]
  intro j hj
  have hj' : j < (flat ps).length := by simpa using hj
  refine ⟨?_, by simp [World.frozen?, hh]⟩
  have := h.cell j _ (List.getElem?_eq_getElem hj')
  rw [Nat.zero_add, this]
  simp [hj']
theorem OwnP.of_block {w w' : World} {base g cap : Nat} {ps : List Pt} (h : OwnP w base g cap ps) (hb : w'.heap[g]? = w.heap[g]?) : OwnP w' base g cap ps := by
  obtain ⟨cur, h0, hh, h1, h2, h3, h4⟩ := h.parts
  exact ⟨⟨by rw [flat_len], .inr ⟨g, cap, cur, rfl, h0, by rw [hb]; exact hh, h1, h2, h3, h4⟩⟩⟩
theorem OwnP.below {w w' : World} {base g cap B : Nat} {ps : List Pt} (h : OwnP w base g cap ps) (hb : Below B w w') (hB : g < B) : OwnP w' base g cap ps :=
  h.of_block (hb.block g hB)
theorem OwnP.grown {w w' : World} {base g cap : Nat} {ps : List Pt} {row : Option Nat} (h : OwnP w base g cap ps) (hb : w.grownBy w' row) (hne : some g ≠ row) : OwnP w' base g cap ps :=
  h.of_block (hb.block g h.lt hne)
theorem OwnP.alloc {w : World} {base g cap : Nat} {ps : List Pt} (h : OwnP w base g cap ps) (o : Obj) : OwnP (w.alloc o) base g cap ps :=
  h.of_block (heap_alloc_old w o h.lt)
theorem OwnP.drew {w : World} {base g cap : Nat} {ps : List Pt} (h : OwnP w base g cap ps) : OwnP w.drew base g cap ps := h.of_block rfl
theorem OwnP.more {w : World} {base base' g cap : Nat} {ps : List Pt} (h : OwnP w base g cap ps) (hb : base' ≤ g) : OwnP w base' g cap ps := by
  obtain ⟨cur, h0, hh, h1, h2, h3, h4⟩ := h.parts
  exact ⟨⟨by rw [flat_len], .inr ⟨g, cap, cur, rfl, hb, hh, h1, h2, h3, h4⟩⟩⟩
/-- The first k points of an own slice. -/
theorem OwnP.take {w : World} {base g cap : Nat} {ps : List Pt} (h : OwnP w base g cap ps) (k : Nat) (hk : k ≤ ps.length) : OwnP w base g cap (ps.take k) := by
  obtain ⟨cur, h0, hh, h1, h2, h3, h4⟩ := h.parts
  refine ⟨⟨by rw [flat_len], .inr ⟨g, cap, cur, rfl, h0, hh, by simp; omega, h2, h3, ?_⟩⟩⟩
  have e : (ps.take k).length = k := by simp; omega
  rw [e, ← flat_take, ← h4, List.take_take, Nat.min_eq_left (by omega)]
/-- The row is written anew. -/
theorem OwnP.put {w : World} {base g cap : Nat} {ps qs : List Pt} (h : OwnP w base g cap ps) (hq : qs.length = ps.length) (q : Nat) (os : Array Obj) :
    OwnP (grow (putRowK encPt 2 (Sort.ahead w q) g 0 qs.toArray) os) base g cap qs ∧ w.grownBy (grow (putRowK encPt 2 (Sort.ahead w q) g 0 qs.toArray) os) (some g) := by
  obtain ⟨cur, h0, hh, h1, h2, h3, h4⟩ := h.parts
  have hlt := h.lt
  have fl := flat_len qs
  refine ⟨⟨⟨by rw [flat_len], .inr ⟨g, cap, putCells id 0 (flatK encPt 2 qs.toArray) cur, rfl, h0, ?_, by omega, h2, by simpa [putCells] using h3, ?_⟩⟩⟩, rfl, rfl, rfl, by simp [putRowK], ?_⟩
  · rw [heap_grow_old _ _ (by simpa [putRowK] using hlt)]
    simp [putRowK, putRow, mapBlock, Sort.ahead, Array.getElem?_modify, hh, onCells]
  · rw [flatK_flat]
    apply List.ext_getElem?
    intro j
    by_cases hj : j < qs.length * 2
    · have hjc : j < cur.size := by omega
      rw [List.getElem?_take_of_lt hj, Array.getElem?_toList]
      have hj2 : j < (flat qs).length := by omega
      simp [putCells, hjc, hj2]
    · rw [List.getElem?_take_eq_none (by omega), List.getElem?_eq_none (by omega)]
  · intro k hk hne
    rw [heap_grow_old _ _ (by simpa [putRowK] using hk)]
    have : g ≠ k := fun e => hne (by rw [e])
    simp [putRowK, putRow, mapBlock, Sort.ahead, Array.getElem?_modify, this]

/-! ### Clone, SortFunc, Reverse -/
theorem encPt_len (p : Pt) : (encPt p).length = 2 := rfl
theorem encPt_one (p : Pt) : ∀ v ∈ encPt p, v.oneCell' = true := by
  intro v hv
  simp [encPt] at hv
  rcases hv with rfl | rfl <;> rfl

theorem info_pt : (Tryz.prog.info? 57).map (fun i => (i.zero, i.size, i.bytes)) = some (some (.agg #[.int .i64 0, .int .i64 0]), 2, 16) := by kernel_rfl

set_option maxRecDepth 100000 in
/-- Points that lie in memory are copied. -/
theorem clone_any (b off cap : Nat) (ps : List Pt) (hn : ps.length ≤ 1000000) (w : World) (hc : PtsAt w w.heap.size (some ⟨b, off, none⟩) ps) :
    Calls Tryz.prog 82 #[.slice (some ⟨b, off, none⟩) ps.length cap] w fun e w' =>
      ∃ g cap', e = .returned (.slice (some ⟨g, 0, none⟩) ps.length cap') ∧ OwnP w' w.heap.size g cap' ps ∧ Below w.heap.size w w' := by
  obtain ⟨i0, hi0, hz0, hz1, hz2⟩ := info_parts info_pt
  have h := AnyE.slices_Clone Tryz.clonePt i0 _ 2 16 hi0 hz0 hz1 hz2 rfl (by decide) Tryz.sizeOf57 b off ps.length cap (flat ps) w (flat_len ps) (by unfold maxLen; omega) (by omega) ?_ (flat_one ps)
  · refine h.mono ?_
    rintro e w' ⟨v', rfl, hown, hne, hb⟩
    rcases hown.2 with ⟨h0, _⟩ | ⟨g, cap', cur, rfl, hrest⟩
    · exact absurd h0 hne
    · exact ⟨g, cap', rfl, ⟨hown⟩, hb⟩
  · intro j u hj
    have hlt : j < (flat ps).length := (List.getElem?_eq_some_iff.1 hj).1
    rw [flat_len] at hlt
    have h1 : j / 2 < ps.length := by omega
    obtain ⟨b', off', hA, _, c0, c1⟩ := hc (j / 2) _ (List.getElem?_eq_getElem h1)
    injection hA with e1
    injection e1 with e1 e2
    subst e1; subst e2
    rcases Nat.mod_two_eq_zero_or_one j with h | h
    · have e : j = j / 2 * 2 := by omega
      have := flat_get0 ps (j / 2) _ (List.getElem?_eq_getElem h1)
      rw [← e, hj] at this
      cases this
      rw [← e] at c0
      exact c0
    · have e : j = j / 2 * 2 + 1 := by omega
      have := flat_get1 ps (j / 2) _ (List.getElem?_eq_getElem h1)
      rw [← e, hj] at this
      cases this
      rw [show off + j = off + j / 2 * 2 + 1 by omega]
      exact c1

theorem rev_any {base g cap : Nat} (ps : List Pt) (hn : ps.length ≤ 1000000) (w : World) (h : OwnP w base g cap ps) :
    Calls Tryz.prog 87 #[.slice (some ⟨g, 0, none⟩) ps.length cap] w fun e w' =>
      e = .returned (.tuple #[]) ∧ OwnP w' base g cap ps.reverse ∧ w.grownBy w' (some g) := by
  have hr := AnyQ.slices_Reverse Tryz.revPt 2 Tryz.isAgg57 Tryz.sizeOf57 encPt encPt_len encPt_one g 0 cap ps.toArray w h.holds (by simp; omega)
  simp only [List.size_toArray, List.reverse_toArray] at hr
  refine hr.mono ?_
  rintro e w' ⟨rfl, n, rfl⟩
  have := h.put (qs := ps.reverse) (by simp) n #[]
  rw [grow_empty] at this
  exact ⟨rfl, this⟩

end Go.Proofs.YtacmiobhnfeflaaGreat
