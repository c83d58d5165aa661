import Derived.Test.YtacmiobhnfeflaaGreatOverP
import Derived.Test.YtacmiobhnfeflaaGreatShelf
import Derived.Sort.OwnSortedInts
namespace Go.Proofs.YtacmiobhnfeflaaGreat
open Go.RowKit Go.Sort

theorem toInts_contains (l : List Nat) (k : Nat) : (toInts l).contains (k : Int) = l.contains k := by
  rw [Bool.eq_iff_iff, List.contains_iff_mem, List.contains_iff_mem]
  unfold toInts
  rw [List.mem_map]
  constructor
  · rintro ⟨a, ha, e⟩
    have : a = k := by omega
    exact this ▸ ha
  · intro h
    exact ⟨k, h, rfl⟩
theorem toInts_len (l : List Nat) : (toInts l).length = l.length := by simp [toInts]

theorem contains_own {base g cap : Nat} (l : List Nat) (k : Nat) (w : World) (hn : l.length ≤ 1000) (hown : w.ownsRow base 3 1 (.slice (some ⟨g, 0, none⟩) l.length cap) l.length (ints l)) :
    Calls Tryz.prog 52 #[.slice (some ⟨g, 0, none⟩) l.length cap, .int .i64 (k : Int)] w fun e w' => e = .returned (.bool (l.contains k)) ∧ w = w' := by
  have h := Tryz.slices_Contains_int g 0 l.length cap (toInts l) (k : Int) w (by simp [toInts]) (by omega) (by
    intro j hj
    have hj' : j < l.length := by simpa [toInts] using hj
    have hc := hown.cells (g := g) rfl j (.int .i64 ((toInts l).getD j 0)) (by
      rw [ints_toInts, List.getElem?_map, List.getElem?_eq_getElem hj]
      simp [List.getD, List.getElem?_eq_getElem hj])
    rw [Addr.add_lit] at hc
    exact hc)
  rw [List.take_of_length_le (by simp [toInts]), toInts_contains] at h
  exact h.mono fun e w' ⟨he, hw⟩ => ⟨he, hw.symm⟩

theorem sort_own {base g cap : Nat} (l : List Nat) (w : World) (hn : l.length ≤ 1000) (hown : w.ownsRow base 3 1 (.slice (some ⟨g, 0, none⟩) l.length cap) l.length (ints l)) :
    Calls Tryz.prog 53 #[.slice (some ⟨g, 0, none⟩) l.length cap] w fun e w' =>
      e = .returned (.tuple #[]) ∧ w'.ownsRow base 3 1 (.slice (some ⟨g, 0, none⟩) l.length cap) l.length (ints (sortedN l)) ∧ w.grownBy w' (some g) := by
  rcases hown.2 with ⟨h0, _⟩ | ⟨g', cap', cur, hv, hb, hh, h1, h2, h3, h4⟩
  · cases h0
  · injection hv with e1 _ e3
    injection e1 with e1
    injection e1 with e1
    subst e1; subst e3
    have hlt : g < w.heap.size := (Array.getElem?_eq_some_iff.1 hh).1
    have hl := toInts_len l
    have hH : Holds (Value.int .i64) w g 0 (toInts l).toArray := holds_of_blockI hh (by rw [hl, ← ints_toInts]; simpa using h4)
    have h := Tryz.slices_Sort_int g 0 cap (toInts l) w hH hlt (by omega)
    rw [hl] at h
    refine h.mono ?_
    rintro e w' ⟨rfl, n, os, rfl⟩
    refine ⟨rfl, ?_, grownBy_sortedI _⟩
    have := ownsRow_sortedI (n := n) (os := os) (ss := toInts l) (ts := (toInts l).mergeSort fun x y => decide (x ≤ y)) (by simp) hb hh (by omega) h2 h3
    rw [hl] at this
    rw [ints_toInts, ← sortedN_ints]
    exact this

theorem own_int {w : World} {base g cap : Nat} {l : List Nat} (h : w.ownsRow base 3 1 (.slice (some ⟨g, 0, none⟩) l.length cap) l.length (ints l)) {n x : Nat} (hx : l[n]? = some x) : w.cell? ⟨g, n, none⟩ = some (.int .i64 (x : Int)) := by
  have hc := h.cells (g := g) rfl n (.int .i64 (x : Int)) (by unfold ints; rw [List.getElem?_map, hx]; rfl)
  rw [Addr.add_lit, Nat.zero_add] at hc
  exact hc
theorem rests_yes (a b : Bx) (h : a.rests b = true) (w : World) :
    Calls Tryz.prog 51 #[.agg #[.int .i64 a.x0, .int .i64 a.y0, .int .i64 a.z0, .int .i64 a.x1, .int .i64 a.y1, .int .i64 a.z1], .agg #[.int .i64 b.x0, .int .i64 b.y0, .int .i64 b.z0, .int .i64 b.x1, .int .i64 b.y1, .int .i64 b.z1]] w fun e w' => e = .returned (.bool true) ∧ Below w.heap.size w w' :=
  (rests_any a b w).mono fun e w' ⟨he, hb⟩ => ⟨by rw [he, h], hb⟩
theorem rests_no (a b : Bx) (h : a.rests b = false) (w : World) :
    Calls Tryz.prog 51 #[.agg #[.int .i64 a.x0, .int .i64 a.y0, .int .i64 a.z0, .int .i64 a.x1, .int .i64 a.y1, .int .i64 a.z1], .agg #[.int .i64 b.x0, .int .i64 b.y0, .int .i64 b.z0, .int .i64 b.x1, .int .i64 b.y1, .int .i64 b.z1]] w fun e w' => e = .returned (.bool false) ∧ Below w.heap.size w w' :=
  (rests_any a b w).mono fun e w' ⟨he, hb⟩ => ⟨by rw [he, h], hb⟩
theorem contains_yes {base g cap : Nat} (l : List Nat) (k : Nat) (w : World) (hn : l.length ≤ 1000) (hown : w.ownsRow base 3 1 (.slice (some ⟨g, 0, none⟩) l.length cap) l.length (ints l)) (h : l.contains k = true) :
    Calls Tryz.prog 52 #[.slice (some ⟨g, 0, none⟩) l.length cap, .int .i64 (k : Int)] w fun e w' => e = .returned (.bool true) ∧ w = w' :=
  (contains_own l k w hn hown).mono fun e w' ⟨he, hw⟩ => ⟨by rw [he, h], hw⟩
theorem contains_no {base g cap : Nat} (l : List Nat) (k : Nat) (w : World) (hn : l.length ≤ 1000) (hown : w.ownsRow base 3 1 (.slice (some ⟨g, 0, none⟩) l.length cap) l.length (ints l)) (h : l.contains k = false) :
    Calls Tryz.prog 52 #[.slice (some ⟨g, 0, none⟩) l.length cap, .int .i64 (k : Int)] w fun e w' => e = .returned (.bool false) ∧ w = w' :=
  (contains_own l k w hn hown).mono fun e w' ⟨he, hw⟩ => ⟨by rw [he, h], hw⟩

/-- What over leaves: the numbers of what is carried, in order, in new memory. -/
def OverPost (ps : List Pc) (i : Nat) (w : World) (e : Ending) (w' : World) : Prop :=
  ∃ v l, e = .returned v ∧ IsOver ps i l ∧ w'.ownsRow w.heap.size 3 1 v l.length (ints l) ∧ Below w.heap.size w w'

/-- A slice that is not nil. -/
def OwnS (w wr : World) (v : Value) (out : List Nat) : Prop := ∃ g cap, v = .slice (some ⟨g, 0, none⟩) out.length cap ∧ w.heap.size ≤ g ∧ wr.ownsRow w.heap.size 3 1 (.slice (some ⟨g, 0, none⟩) out.length cap) out.length (ints out)
theorem ownS_of {w wr : World} {v : Value} {out : List Nat} (h : wr.ownsRow w.heap.size 3 1 v out.length (ints out)) (h0 : out ≠ []) : OwnS w wr v out := by
  rcases h.2 with ⟨_, hn⟩ | ⟨g, cap, cur, rfl, hg, hr⟩
  · exact absurd (List.eq_nil_of_length_eq_zero hn) h0
  · exact ⟨g, cap, rfl, hg, h⟩

structure OwnI (w : World) (base g cap : Nat) (l : List Nat) : Prop where
  own : w.ownsRow base 3 1 (.slice (some ⟨g, 0, none⟩) l.length cap) l.length (ints l)
theorem OwnI.below {w w' : World} {base g cap : Nat} {l : List Nat} (h : OwnI w base g cap l) (hb : Below w.heap.size w w') : OwnI w' base g cap l := ⟨own_below h.own hb⟩

set_option maxRecDepth 100000 in
set_option maxHeartbeats 8000000 in
theorem over_any (A : Option Addr) (cap : Nat) (ps : List Pc) (i : Nat) (hi : i < ps.length) (hn : ps.length ≤ 40) (hok : ∀ p ∈ ps, p.Ok) (w : World) (hps : PcsAt w w.heap.size A ps) :
    Calls Tryz.prog 30 #[.slice A ps.length cap, .int .i64 (i : Int)] w (OverPost ps i w) := by
  obtain ⟨i0, hi0, hz0, hz1, hz2⟩ := info_parts info_int
  obtain ⟨b, off, rfl, hb, -⟩ := hps i ps[i] (List.getElem?_eq_getElem hi)
  go_enter Tryz.func30, Tryz.ntmps30
  go_wp2_with fail
  go_loopg [5, 6] (ps.length) (fun m v c wr => ∃ n out, c = .int .i64 (n : Nat) ∧ OwnS w wr v out ∧ RowKit.Hid (OverInv ps i n out ∧ n ≤ out.length ∧ n + m = ps.length) ∧ Below w.heap.size w wr)
  case atStart =>
    refine ⟨0, [i], rfl, ⟨w.heap.size, 1, rfl, Nat.le_refl _, ?_⟩, ⟨OverInv.start ps i, by simp, by omega⟩, (Below.refl _ _).alloc (Nat.le_refl _) _⟩
    refine ⟨by simp [ints], .inr ⟨w.heap.size, 1, #[.int .i64 (i : Int)], rfl, Nat.le_refl _, heap_alloc_new w _, by simp, by decide, by simp, by simp [ints]⟩⟩
  case round =>
    obtain ⟨n, out, rfl, ⟨g, cap', rfl, hg, hown⟩, hI, hB⟩ := hrel
    have hlen := hI.out.1.len hi
    have hno := hI.out.2.1
    by_cases hlt : n < out.length
    · obtain ⟨x, hx⟩ : ∃ x, out[n]? = some x := ⟨_, List.getElem?_eq_getElem hlt⟩
      clear hx
      go_wp2_with fail
      obtain ⟨wo, hwo⟩ : ∃ wo, wo = wr := ⟨_, rfl⟩
      rw [← hwo] at hB hown ⊢
      clear hwo
      obtain ⟨go, hgo⟩ : ∃ go, go = gk - 1 := ⟨_, rfl⟩
      have HGO := Lib.hid hgo
      clear hgo
      go_loopg [5, 18] (ps.length) (fun m v c wr => ∃ k out, c = .int .i64 (k : Nat) ∧ OwnS w wr v out ∧ RowKit.Hid (InnerInv ps i n k out ∧ n < out.length ∧ k + m = ps.length) ∧ Below w.heap.size w wr)
      case atStart => exact ⟨0, out, rfl, ⟨g, cap', rfl, hg, hown⟩, ⟨hI.out.1.inner, hlt, by omega⟩, hB⟩
      case round =>
        clear hg hown hB x
        obtain ⟨k, out, rfl, ⟨g, cap', rfl, hg, hown⟩, hJ, hB⟩ := hrel
        have hlen := hJ.out.1.inv.len hi
        by_cases hkl : k < ps.length
        · obtain ⟨x, hx⟩ : ∃ x, out[n]? = some x := ⟨_, List.getElem?_eq_getElem hJ.out.2.1⟩
          have hxl : x < ps.length := (hJ.out.1.inv.re x (List.mem_of_getElem? hx)).lt hi
          have HX := Lib.hid hx
          obtain ⟨q, hq⟩ : ∃ q, q = ps[k] := ⟨_, rfl⟩
          have hqi : ps[k]? = some q := by rw [hq]; exact List.getElem?_eq_getElem hkl
          have hqo : q.Ok := hq ▸ hok _ (List.getElem_mem _)
          have hqb : RowKit.Hid (bxAt ps k = q.box) := by show bxAt ps k = q.box; rw [hq]; exact bxAt_get ps k hkl
          obtain ⟨p, hp⟩ : ∃ p, p = ps[x] := ⟨_, rfl⟩
          have hpi : ps[x]? = some p := by rw [hp]; exact List.getElem?_eq_getElem hxl
          have hpo : p.Ok := hp ▸ hok _ (List.getElem_mem _)
          have hpb : RowKit.Hid (bxAt ps x = p.box) := by show bxAt ps x = p.box; rw [hp]; exact bxAt_get ps x hxl
          obtain ⟨b', off', hA, hb', c0, c1, c2, c3, c4, c5, c6⟩ := (hps.below hB) k q hqi
          obtain ⟨rfl, rfl⟩ : b = b' ∧ off = off' := by simpa using hA
          obtain ⟨b', off', hA', hb', d0, d1, d2, d3, d4, d5, d6⟩ := (hps.below hB) x p hpi
          obtain ⟨rfl, rfl⟩ : b = b' ∧ off = off' := by simpa using hA'
          have hx2 := own_int hown hx
          have hnl := hJ.out.2.1
          clear hx hq hqi hp hpi hA hA' hb'
          have hO0 : OwnI wr.drew w.heap.size g cap' out := ⟨hown⟩
          have hB0 : Below wr.heap.size wr wr.drew := below_drewN (Below.refl _ _) 1
          have hlt0 : b < wr.heap.size := Nat.lt_of_lt_of_le hb hB.size
          by_cases hr : q.box.rests p.box = true
          · have HR := Lib.hid hr
            have hrr : RowKit.Hid ((bxAt ps k).rests (bxAt ps x) = true) := by show (bxAt ps k).rests (bxAt ps x) = true; rw [hpb.out, hqb.out]; exact hr
            clear hr
            by_cases hc : out.contains k = true
            · have HC := Lib.hid hc
              clear hc
              go_wp2_with fail
              go_region_held3 (fun w' => Below wr.heap.size wr w' ∧ b < w'.heap.size ∧ OwnI w' w.heap.size g cap' out ∧ w'.cell? ⟨g, n, none⟩ = some (.int .i64 (x : Int)) ∧ w'.cell? ⟨b, off + k * 7, none⟩ = some (.int .i64 q.x) ∧ w'.cell? ⟨b, off + k * 7 + 1, none⟩ = some (.int .i64 q.y) ∧ w'.cell? ⟨b, off + k * 7 + 2, none⟩ = some (.int .i64 q.z) ∧ w'.cell? ⟨b, off + k * 7 + 3, none⟩ = some (.int .i64 q.l) ∧ w'.cell? ⟨b, off + k * 7 + 4, none⟩ = some (.int .i64 q.w) ∧ w'.cell? ⟨b, off + k * 7 + 5, none⟩ = some (.int .i64 q.h) ∧ w'.cell? ⟨b, off + k * 7 + 6, none⟩ = some (.int .i64 q.m) ∧ w'.cell? ⟨b, off + x * 7, none⟩ = some (.int .i64 p.x) ∧ w'.cell? ⟨b, off + x * 7 + 1, none⟩ = some (.int .i64 p.y) ∧ w'.cell? ⟨b, off + x * 7 + 2, none⟩ = some (.int .i64 p.z) ∧ w'.cell? ⟨b, off + x * 7 + 3, none⟩ = some (.int .i64 p.l) ∧ w'.cell? ⟨b, off + x * 7 + 4, none⟩ = some (.int .i64 p.w) ∧ w'.cell? ⟨b, off + x * 7 + 5, none⟩ = some (.int .i64 p.h) ∧ w'.cell? ⟨b, off + x * 7 + 6, none⟩ = some (.int .i64 p.m)) (simp [*])
                (first
                  | (go_at_call 31; (with_reducible refine (boxOf_any q hqo _).mono ?_); rintro e w' ⟨rfl, hb2⟩; have hbc := fun o => (bcell hb2).1 b o (by assumption); have hlt2 : b < w'.heap.size := Nat.lt_of_lt_of_le (by assumption) hb2.size; have hB2 := below_next (a := wr) (by assumption) hb2; have ho2 := OwnI.below (base := w.heap.size) (g := g) (cap := cap') (l := out) (by assumption) hb2; have hx2 := own_int ho2.own HX.out)
                  | (go_at_call 31; (with_reducible refine (boxOf_any p hpo _).mono ?_); rintro e w' ⟨rfl, hb2⟩; have hbc := fun o => (bcell hb2).1 b o (by assumption); have hlt2 : b < w'.heap.size := Nat.lt_of_lt_of_le (by assumption) hb2.size; have hB2 := below_next (a := wr) (by assumption) hb2; have ho2 := OwnI.below (base := w.heap.size) (g := g) (cap := cap') (l := out) (by assumption) hb2; have hx2 := own_int ho2.own HX.out)
                  | (go_at_call 51; (with_reducible refine (rests_yes q.box p.box HR.out _).mono ?_); rintro e w' ⟨rfl, hb2⟩; have hbc := fun o => (bcell hb2).1 b o (by assumption); have hlt2 : b < w'.heap.size := Nat.lt_of_lt_of_le (by assumption) hb2.size; have hB2 := below_next (a := wr) (by assumption) hb2; have ho2 := OwnI.below (base := w.heap.size) (g := g) (cap := cap') (l := out) (by assumption) hb2; have hx2 := own_int ho2.own HX.out)
                  | (go_at_call 52; (with_reducible refine (contains_yes (base := w.heap.size) out k _ (by omega) (OwnI.own (by assumption)) HC.out).mono ?_); rintro e w' ⟨rfl, rfl⟩))
              have hB3 : Below w.heap.size w w' := hB.trans (hB2.mono hB.size)
              have hown3 := own_below hown hB2
              clear c0 c1 c2 c3 c4 c5 c6 d0 d1 d2 d3 d4 d5 d6 hown
              go_wp2_with fail
              go_roundg (gk - 1)
              case measure => have := hJ.out.2.2; omega
              case rel => exact ⟨k + 1, out, by go_num, ⟨g, cap', rfl, hg, hown3⟩, ⟨hJ.out.1.old (List.contains_iff_mem.1 HC.out), hJ.out.2.1, by have := hJ.out.2.2; omega⟩, hB3⟩
            · have hc' : out.contains k = false := by simpa using hc
              have HC := Lib.hid hc'
              clear hc hc'
              go_wp2_with fail
              go_region_held3 (fun w' => Below wr.heap.size wr w' ∧ b < w'.heap.size ∧ OwnI w' w.heap.size g cap' out ∧ w'.cell? ⟨g, n, none⟩ = some (.int .i64 (x : Int)) ∧ w'.cell? ⟨b, off + k * 7, none⟩ = some (.int .i64 q.x) ∧ w'.cell? ⟨b, off + k * 7 + 1, none⟩ = some (.int .i64 q.y) ∧ w'.cell? ⟨b, off + k * 7 + 2, none⟩ = some (.int .i64 q.z) ∧ w'.cell? ⟨b, off + k * 7 + 3, none⟩ = some (.int .i64 q.l) ∧ w'.cell? ⟨b, off + k * 7 + 4, none⟩ = some (.int .i64 q.w) ∧ w'.cell? ⟨b, off + k * 7 + 5, none⟩ = some (.int .i64 q.h) ∧ w'.cell? ⟨b, off + k * 7 + 6, none⟩ = some (.int .i64 q.m) ∧ w'.cell? ⟨b, off + x * 7, none⟩ = some (.int .i64 p.x) ∧ w'.cell? ⟨b, off + x * 7 + 1, none⟩ = some (.int .i64 p.y) ∧ w'.cell? ⟨b, off + x * 7 + 2, none⟩ = some (.int .i64 p.z) ∧ w'.cell? ⟨b, off + x * 7 + 3, none⟩ = some (.int .i64 p.l) ∧ w'.cell? ⟨b, off + x * 7 + 4, none⟩ = some (.int .i64 p.w) ∧ w'.cell? ⟨b, off + x * 7 + 5, none⟩ = some (.int .i64 p.h) ∧ w'.cell? ⟨b, off + x * 7 + 6, none⟩ = some (.int .i64 p.m)) (simp [*])
                (first
                  | (go_at_call 31; (with_reducible refine (boxOf_any q hqo _).mono ?_); rintro e w' ⟨rfl, hb2⟩; have hbc := fun o => (bcell hb2).1 b o (by assumption); have hlt2 : b < w'.heap.size := Nat.lt_of_lt_of_le (by assumption) hb2.size; have hB2 := below_next (a := wr) (by assumption) hb2; have ho2 := OwnI.below (base := w.heap.size) (g := g) (cap := cap') (l := out) (by assumption) hb2; have hx2 := own_int ho2.own HX.out)
                  | (go_at_call 31; (with_reducible refine (boxOf_any p hpo _).mono ?_); rintro e w' ⟨rfl, hb2⟩; have hbc := fun o => (bcell hb2).1 b o (by assumption); have hlt2 : b < w'.heap.size := Nat.lt_of_lt_of_le (by assumption) hb2.size; have hB2 := below_next (a := wr) (by assumption) hb2; have ho2 := OwnI.below (base := w.heap.size) (g := g) (cap := cap') (l := out) (by assumption) hb2; have hx2 := own_int ho2.own HX.out)
                  | (go_at_call 51; (with_reducible refine (rests_yes q.box p.box HR.out _).mono ?_); rintro e w' ⟨rfl, hb2⟩; have hbc := fun o => (bcell hb2).1 b o (by assumption); have hlt2 : b < w'.heap.size := Nat.lt_of_lt_of_le (by assumption) hb2.size; have hB2 := below_next (a := wr) (by assumption) hb2; have ho2 := OwnI.below (base := w.heap.size) (g := g) (cap := cap') (l := out) (by assumption) hb2; have hx2 := own_int ho2.own HX.out)
                  | (go_at_call 52; (with_reducible refine (contains_no (base := w.heap.size) out k _ (by omega) (OwnI.own (by assumption)) HC.out).mono ?_); rintro e w' ⟨rfl, rfl⟩))
              have hB3 : Below w.heap.size w w' := hB.trans (hB2.mono hB.size)
              have hown3 := own_below hown hB2
              have hsz3 := hB3.size
              clear c0 c1 c2 c3 c4 c5 c6 d0 d1 d2 d3 d4 d5 d6 hown
              go_wp2_with (at_builtin; refine wpList_append_own _ rfl _ _ 32 rfl w.heap.size 3 i0 (.int .i64 0) 1 8 Tryz.underlying32 hi0 hz0 hz1 hz2 rfl (by decide) _ _ _ rfl (hown3.alloc _) ⟨w'.heap.size, 0, none⟩ 1 1 [.int .i64 ((k : Nat) : Int)] rfl rfl ?c1 ?c2 ?c3 ?c4 ?c5 ?_)
              case c1 => exact cell_one_new _ _ _
              case c2 => intro u hu; simp at hu; subst hu; rfl
              case c3 => unfold maxLen; omega
              case c4 => omega
              case c5 => simp; omega
              intro v' w4 hown4 hgrow4 _
              have hB4 : Below w.heap.size w w4 := (hB3.alloc hB3.size _).grown hgrow4 (by simp; omega) (fun g' e => by
                have := hown3.block_ge e
                omega)
              have hown5 : w4.ownsRow w.heap.size 3 1 v' (out ++ [k]).length (ints (out ++ [k])) := by
                rw [ints_snoc]
                simpa using hown4
              obtain ⟨g', cap2, hv', hg', hown6⟩ := ownS_of hown5 (by simp)
              have HJ : RowKit.Hid (InnerInv ps i n (k + 1) (out ++ [k]) ∧ n < (out ++ [k]).length ∧ (k + 1) + (gk - 1) = ps.length) :=
                ⟨hJ.out.1.new HX.out hrr.out hkl (fun hm => by have := HC.out; rw [List.contains_iff_mem.2 hm] at this; cases this), by simp; omega, by have := hJ.out.2.2; omega⟩
              go_wp2_with fail
              go_roundg (gk - 1)
              case measure => have := hJ.out.2.2; omega
              case rel => exact ⟨k + 1, out ++ [k], by go_num, ⟨g', cap2, hv', hg', hown6⟩, HJ, hB4⟩
          · have hr' : q.box.rests p.box = false := by simpa using hr
            have HR := Lib.hid hr'
            have hrr : RowKit.Hid ((bxAt ps k).rests (bxAt ps x) = false) := by show (bxAt ps k).rests (bxAt ps x) = false; rw [hpb.out, hqb.out]; exact hr'
            clear hr hr'
            go_wp2_with fail
            have hlt1 : b < wr.drew.heap.size := hlt0
            refine wp_region_held_drew (S := (fun w' => Below wr.heap.size wr w' ∧ b < w'.heap.size ∧ OwnI w' w.heap.size g cap' out ∧ w'.cell? ⟨g, n, none⟩ = some (.int .i64 (x : Int)) ∧ w'.cell? ⟨b, off + k * 7, none⟩ = some (.int .i64 q.x) ∧ w'.cell? ⟨b, off + k * 7 + 1, none⟩ = some (.int .i64 q.y) ∧ w'.cell? ⟨b, off + k * 7 + 2, none⟩ = some (.int .i64 q.z) ∧ w'.cell? ⟨b, off + k * 7 + 3, none⟩ = some (.int .i64 q.l) ∧ w'.cell? ⟨b, off + k * 7 + 4, none⟩ = some (.int .i64 q.w) ∧ w'.cell? ⟨b, off + k * 7 + 5, none⟩ = some (.int .i64 q.h) ∧ w'.cell? ⟨b, off + k * 7 + 6, none⟩ = some (.int .i64 q.m) ∧ w'.cell? ⟨b, off + x * 7, none⟩ = some (.int .i64 p.x) ∧ w'.cell? ⟨b, off + x * 7 + 1, none⟩ = some (.int .i64 p.y) ∧ w'.cell? ⟨b, off + x * 7 + 2, none⟩ = some (.int .i64 p.z) ∧ w'.cell? ⟨b, off + x * 7 + 3, none⟩ = some (.int .i64 p.l) ∧ w'.cell? ⟨b, off + x * 7 + 4, none⟩ = some (.int .i64 p.w) ∧ w'.cell? ⟨b, off + x * 7 + 5, none⟩ = some (.int .i64 p.h) ∧ w'.cell? ⟨b, off + x * 7 + 6, none⟩ = some (.int .i64 p.m))) (by kernel_rfl) ?_ (fun hHeld => ?_)
            · try dsimp only
              simp [*]
            refine wpAnyH_take (i := 0) (v := ?_) rfl (by kernel_rfl) (by kernel_rfl) (by kernel_rfl) (fun _ _ _ h => h) (Or.inl ⟨by rfl, ?_⟩) (by assumption) ?_
            rotate_left
            · intro w hSw
              (try dsimp only at hSw)
              go_simp
              try (with_reducible rfl)
            try simp only [Act.put, List.setIfInBounds_toArray, List.set_cons_zero, List.set_cons_succ]
            refine wpAnyH_take (i := 1) (v := ?_) rfl (by kernel_rfl) (by kernel_rfl) (by kernel_rfl) (fun _ _ _ h => h) (Or.inl ⟨by rfl, ?_⟩) (by assumption) ?_
            rotate_left
            · intro w hSw
              (try dsimp only at hSw)
              go_simp
              try (with_reducible rfl)
            try simp only [Act.put, List.setIfInBounds_toArray, List.set_cons_zero, List.set_cons_succ]
            refine wpAnyH_take (i := 2) (v := ?_) rfl (by kernel_rfl) (by kernel_rfl) (by kernel_rfl) (fun _ _ _ h => h) (Or.inl ⟨by rfl, ?_⟩) (by assumption) ?_
            rotate_left
            · intro w hSw
              (try dsimp only at hSw)
              go_simp
              try (with_reducible rfl)
            try simp only [Act.put, List.setIfInBounds_toArray, List.set_cons_zero, List.set_cons_succ]
            refine wpAnyH_take (i := 3) (v := ?_) rfl (by kernel_rfl) (by kernel_rfl) (by kernel_rfl) (fun _ _ _ h => h) (Or.inl ⟨by rfl, ?_⟩) (by assumption) ?_
            rotate_left
            · intro w hSw
              (try dsimp only at hSw)
              go_simp
              try (with_reducible rfl)
            try simp only [Act.put, List.setIfInBounds_toArray, List.set_cons_zero, List.set_cons_succ]
            refine wpAnyH_take (i := 5) (v := ?_) rfl (by kernel_rfl) (by kernel_rfl) (by kernel_rfl) (fun _ _ _ h => h) (Or.inl ⟨by rfl, ?_⟩) (by assumption) ?_
            rotate_left
            · intro w hSw
              (try dsimp only at hSw)
              go_simp
              try (with_reducible rfl)
            try simp only [Act.put, List.setIfInBounds_toArray, List.set_cons_zero, List.set_cons_succ]
            refine wpAnyH_take (i := 6) (v := ?_) rfl (by kernel_rfl) (by kernel_rfl) (by kernel_rfl) (fun _ _ _ h => h) (Or.inl ⟨by rfl, ?_⟩) (by assumption) ?_
            rotate_left
            · intro w hSw
              (try dsimp only at hSw)
              go_simp
              try (with_reducible rfl)
            try simp only [Act.put, List.setIfInBounds_toArray, List.set_cons_zero, List.set_cons_succ]
            refine wpAnyH_take (i := 7) (v := ?_) rfl (by kernel_rfl) (by kernel_rfl) (by kernel_rfl) (fun _ _ _ h => h) (Or.inl ⟨by rfl, ?_⟩) (by assumption) ?_
            rotate_left
            · intro w hSw
              (try dsimp only at hSw)
              go_simp
              try (with_reducible rfl)
            try simp only [Act.put, List.setIfInBounds_toArray, List.set_cons_zero, List.set_cons_succ]
            refine wpAnyH_take (i := 8) (v := ?_) rfl (by kernel_rfl) (by kernel_rfl) (by kernel_rfl) (fun _ _ _ h => h) (Or.inl ⟨by rfl, ?_⟩) (by assumption) ?_
            rotate_left
            · intro w hSw
              (try dsimp only at hSw)
              go_simp
              try (with_reducible rfl)
            try simp only [Act.put, List.setIfInBounds_toArray, List.set_cons_zero, List.set_cons_succ]
            refine wpAnyH_take (i := 9) (v := ?_) rfl (by kernel_rfl) (by kernel_rfl) (by kernel_rfl) (fun _ _ _ h => h) (Or.inl ⟨by rfl, ?_⟩) (by assumption) ?_
            rotate_left
            · intro w hSw
              (try dsimp only at hSw)
              go_simp
              try (with_reducible rfl)
            try simp only [Act.put, List.setIfInBounds_toArray, List.set_cons_zero, List.set_cons_succ]
            refine wpAnyH_take (i := 10) (v := ?_) rfl (by kernel_rfl) (by kernel_rfl) (by kernel_rfl) (fun _ _ _ h => h) (Or.inl ⟨by rfl, ?_⟩) (by assumption) ?_
            rotate_left
            · intro w hSw
              (try dsimp only at hSw)
              go_simp
              try (with_reducible rfl)
            try simp only [Act.put, List.setIfInBounds_toArray, List.set_cons_zero, List.set_cons_succ]
            refine wpAnyH_take (i := 11) (v := ?_) rfl (by kernel_rfl) (by kernel_rfl) (by kernel_rfl) (fun _ _ _ h => h) (Or.inl ⟨by rfl, ?_⟩) (by assumption) ?_
            rotate_left
            · intro w hSw
              (try dsimp only at hSw)
              go_simp
              try (with_reducible rfl)
            try simp only [Act.put, List.setIfInBounds_toArray, List.set_cons_zero, List.set_cons_succ]
            refine wpAnyH_ready (rs := [4]) (by kernel_rfl) (by simp) ?_
            refine AllReadyH.cons rfl (fun K hK => ?_) AllReadyH.nil
            go_simp
            (with_reducible refine (boxOf_any q hqo _).mono ?_); rintro e w' ⟨rfl, hb2⟩; have hbc := fun o => (bcell hb2).1 b o (by assumption); have hlt2 : b < w'.heap.size := Nat.lt_of_lt_of_le (by assumption) hb2.size; have hB2 := below_next (a := wr) (by assumption) hb2; have ho2 := OwnI.below (base := w.heap.size) (g := g) (cap := cap') (l := out) (by assumption) hb2; have hx2 := own_int ho2.own HX.out
            go_wp2_with fail
            refine hK.out _ _ ?_ (fun hHeld => ?_)
            · try dsimp only
              simp [*]
            clear hK K
            try simp only [Act.put, List.setIfInBounds_toArray, List.set_cons_zero, List.set_cons_succ]
            refine wpAnyH_ready (rs := [12]) (by kernel_rfl) (by simp) ?_
            refine AllReadyH.cons rfl (fun K hK => ?_) AllReadyH.nil
            go_simp
            (with_reducible refine (boxOf_any p hpo _).mono ?_); rintro e w' ⟨rfl, hb2⟩; have hbc := fun o => (bcell hb2).1 b o (by assumption); have hlt2 : b < w'.heap.size := Nat.lt_of_lt_of_le (by assumption) hb2.size; have hB2 := below_next (a := wr) (by assumption) hb2; have ho2 := OwnI.below (base := w.heap.size) (g := g) (cap := cap') (l := out) (by assumption) hb2; have hx2 := own_int ho2.own HX.out
            go_wp2_with fail
            refine hK.out _ _ ?_ (fun hHeld => ?_)
            · try dsimp only
              simp [*]
            clear hK K
            try simp only [Act.put, List.setIfInBounds_toArray, List.set_cons_zero, List.set_cons_succ]
            refine wpAnyH_ready (rs := [13]) (by kernel_rfl) (by simp) ?_
            refine AllReadyH.cons rfl (fun K hK => ?_) AllReadyH.nil
            go_simp
            (with_reducible refine (rests_no q.box p.box HR.out _).mono ?_); rintro e w' ⟨rfl, hb2⟩; have hbc := fun o => (bcell hb2).1 b o (by assumption); have hlt2 : b < w'.heap.size := Nat.lt_of_lt_of_le (by assumption) hb2.size; have hB2 := below_next (a := wr) (by assumption) hb2; have ho2 := OwnI.below (base := w.heap.size) (g := g) (cap := cap') (l := out) (by assumption) hb2; have hx2 := own_int ho2.own HX.out
            go_wp2_with fail
            refine hK.out _ _ ?_ (fun hHeld => ?_)
            · try dsimp only
              simp [*]
            clear hK K
            try simp only [Act.put, List.setIfInBounds_toArray, List.set_cons_zero, List.set_cons_succ]
            refine wpAnyH_take (i := 14) (v := ?_) rfl (by kernel_rfl) (by kernel_rfl) (by kernel_rfl) (fun _ _ _ h => h) (Or.inl ⟨by rfl, ?_⟩) (by assumption) ?_
            rotate_left
            · intro w hSw
              (try dsimp only at hSw)
              go_simp
              try (with_reducible rfl)
            try simp only [Act.put, List.setIfInBounds_toArray, List.set_cons_zero, List.set_cons_succ]
            refine wpAnyH_take (i := 15) (v := undef) rfl (by kernel_rfl) (by kernel_rfl) (by kernel_rfl) (fun _ _ _ h => h) (Or.inr ⟨by rfl, rfl⟩) (by assumption) ?_
            try simp only [Act.put, List.setIfInBounds_toArray, List.set_cons_zero, List.set_cons_succ]
            refine wpAnyH_take (i := 16) (v := undef) rfl (by kernel_rfl) (by kernel_rfl) (by kernel_rfl) (fun _ _ _ h => h) (Or.inr ⟨by rfl, rfl⟩) (by assumption) ?_
            try simp only [Act.put, List.setIfInBounds_toArray, List.set_cons_zero, List.set_cons_succ]
            refine wpAnyH_take (i := 17) (v := undef) rfl (by kernel_rfl) (by kernel_rfl) (by kernel_rfl) (fun _ _ _ h => h) (Or.inr ⟨by rfl, rfl⟩) (by assumption) ?_
            try simp only [Act.put, List.setIfInBounds_toArray, List.set_cons_zero, List.set_cons_succ]
            refine wpAnyH_take (i := 18) (v := undef) rfl (by kernel_rfl) (by kernel_rfl) (by kernel_rfl) (fun _ _ _ h => h) (Or.inr ⟨by rfl, rfl⟩) (by assumption) ?_
            try simp only [Act.put, List.setIfInBounds_toArray, List.set_cons_zero, List.set_cons_succ]
            refine wpAnyH_take (i := 19) (v := ?_) rfl (by kernel_rfl) (by kernel_rfl) (by kernel_rfl) (fun _ _ _ h => h) (Or.inl ⟨by rfl, ?_⟩) (by assumption) ?_
            rotate_left
            · intro w hSw
              (try dsimp only at hSw)
              go_simp
              try (with_reducible rfl)
            try simp only [Act.put, List.setIfInBounds_toArray, List.set_cons_zero, List.set_cons_succ]
            refine wpAnyH_done (by kernel_rfl) ?_ _
            have hB3 : Below w.heap.size w w' := hB.trans (hB2.mono hB.size)
            have hown3 := own_below hown hB2
            clear c0 c1 c2 c3 c4 c5 c6 d0 d1 d2 d3 d4 d5 d6 hown
            go_wp2_with fail
            go_roundg (gk - 1)
            case measure => have := hJ.out.2.2; omega
            case rel => exact ⟨k + 1, out, by go_num, ⟨g, cap', rfl, hg, hown3⟩, ⟨hJ.out.1.none HX.out hrr.out, hJ.out.2.1, by have := hJ.out.2.2; omega⟩, hB3⟩
        · obtain rfl : k = ps.length := by have := hJ.out.2.2; omega
          have hnl := hJ.out.2.1
          go_wp2_with fail
          go_roundg go
          case measure => have := HGO.out; have := hI.out.2.2; omega
          case rel => exact ⟨n + 1, out, by go_num, ⟨g, cap', rfl, hg, hown⟩, ⟨hJ.out.1.done, by omega, by have := HGO.out; have := hI.out.2.2; omega⟩, hB⟩
    · have HS := Lib.hid (hI.out.1.sorted (by omega))
      go_wp2_with fail
      (with_reducible refine (sort_own out _ (by omega) hown).mono ?_)
      rintro e w2 ⟨rfl, hown2, hG2⟩
      have hB2 : Below w.heap.size w w2 := hB.grown hG2 hB.size (fun k e => by cases e; exact hg)
      have hsl : RowKit.Hid (out.length = (sortedN out).length) := (sortedN_perm out).length_eq.symm
      go_wp2_with fail
      go_ret
      refine ⟨_, sortedN out, rfl, HS.out, ?_, hB2⟩
      rw [← hsl.out]
      exact hown2

end Go.Proofs.YtacmiobhnfeflaaGreat
