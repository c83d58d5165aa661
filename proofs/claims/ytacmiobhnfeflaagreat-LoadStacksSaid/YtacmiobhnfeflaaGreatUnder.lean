import Derived.Test.YtacmiobhnfeflaaGreatTotal
import Derived.Deep.RegionHeld3
namespace Go.Proofs.YtacmiobhnfeflaaGreat
open Go.RowKit

/-- The box of the piece with a number. -/
def bxAt (ps : List Pc) (i : Nat) : Bx := ps[i]!.box
def underS (ps : List Pc) (i : Nat) : List Nat := (List.range ps.length).filter fun k => (bxAt ps i).rests (bxAt ps k)
def ints (l : List Nat) : List Value := l.map fun k : Nat => Value.int .i64 ((k : Nat) : Int)
def underTo (ps : List Pc) (i k : Nat) : List Nat := (List.range k).filter fun k => (bxAt ps i).rests (bxAt ps k)
theorem underTo_yes (ps : List Pc) (i k : Nat) (h : (bxAt ps i).rests (bxAt ps k) = true) : underTo ps i (k + 1) = underTo ps i k ++ [k] := by
  unfold underTo
  rw [List.range_succ, List.filter_append]
  simp [h]
theorem underTo_no (ps : List Pc) (i k : Nat) (h : (bxAt ps i).rests (bxAt ps k) = false) : underTo ps i (k + 1) = underTo ps i k := by
  unfold underTo
  rw [List.range_succ, List.filter_append]
  simp [h]
theorem underTo_len (ps : List Pc) (i k : Nat) : (underTo ps i k).length ≤ k := by
  unfold underTo
  have := List.length_filter_le (fun k => (bxAt ps i).rests (bxAt ps k)) (List.range k)
  simpa using this
theorem ints_len (l : List Nat) : (ints l).length = l.length := by simp [ints]
theorem ints_snoc (l : List Nat) (k : Nat) : ints (l ++ [k]) = ints l ++ [Value.int .i64 ((k : Nat) : Int)] := by simp [ints]
theorem bxAt_get (ps : List Pc) (i : Nat) (h : i < ps.length) : bxAt ps i = ps[i].box := by unfold bxAt; rw [getElem!_pos ps i h]

theorem info_int : (Tryz.prog.info? 3).map (fun i => (i.zero, i.size, i.bytes)) = some (some (.int .i64 0), 1, 8) := by kernel_rfl

/-- A list of numbers in new memory. -/
def IntsPost (l : List Nat) (w : World) (e : Ending) (w' : World) : Prop :=
  ∃ v, e = .returned v ∧ w'.ownsRow w.heap.size 3 1 v l.length (ints l) ∧ Below w.heap.size w w'

theorem below_next {a b c : World} (h : Below a.heap.size a b) (h2 : Below b.heap.size b c) : Below a.heap.size a c := h.trans (h2.mono h.size)
theorem _root_.Go.World.ownsRow.block_ge {w : World} {base : Nat} {e : TypeId} {size n : Nat} {v : Value} {xs : List Value} (h : w.ownsRow base e size v n xs) {g : Nat} (hg : v.ownBlock = some g) : base ≤ g := by
  rcases h.2 with ⟨rfl, _⟩ | ⟨g', cap, cur, rfl, hb, _⟩
  · simp [Value.ownBlock] at hg
  · simp [Value.ownBlock] at hg
    omega
theorem own_below {w w' : World} {base : Nat} {e : TypeId} {size n : Nat} {v : Value} {xs : List Value} (h : w.ownsRow base e size v n xs) (hb : Below w.heap.size w w') : w'.ownsRow base e size v n xs := by
  refine ⟨h.1, ?_⟩
  rcases h.2 with hn | ⟨g, cap, cur, hv, hg, hh, hr⟩
  · exact .inl hn
  · refine .inr ⟨g, cap, cur, hv, hg, ?_, hr⟩
    have hlt : g < w.heap.size := by
      rcases Nat.lt_or_ge g w.heap.size with h | h
      · exact h
      · rw [Array.getElem?_eq_none h] at hh; cases hh
    exact (hb.block g hlt).trans hh

set_option maxRecDepth 100000 in
set_option maxHeartbeats 4000000 in
theorem under_any (A : Option Addr) (cap : Nat) (ps : List Pc) (i : Nat) (hi : i < ps.length) (hn : ps.length ≤ 40) (hok : ∀ p ∈ ps, p.Ok) (w : World) (hps : PcsAt w w.heap.size A ps) :
    Calls Tryz.prog 29 #[.slice A ps.length cap, .int .i64 (i : Int)] w (IntsPost (underS ps i) w) := by
  obtain ⟨i0, hi0, hz0, hz1, hz2⟩ := info_parts info_int
  obtain ⟨p, hp⟩ : ∃ p, p = ps[i] := ⟨_, rfl⟩
  have hpi : ps[i]? = some p := by rw [hp]; exact List.getElem?_eq_getElem hi
  have hpo : p.Ok := hp ▸ hok _ (List.getElem_mem _)
  have hpb : RowKit.Hid (bxAt ps i = p.box) := by show bxAt ps i = p.box; rw [hp]; exact bxAt_get ps i hi
  obtain ⟨b, off, rfl, hb, -⟩ := hps i p hpi
  have HPI := Lib.hid hpi
  clear hp hpi
  go_enter Tryz.func29, Tryz.ntmps29
  go_wp2_with fail
  go_loopg [4, 8] (ps.length) (fun m v c wr => ∃ k, k + m = ps.length ∧ c = .int .i64 (k : Nat) ∧ wr.ownsRow w.heap.size 3 1 v (underTo ps i k).length (ints (underTo ps i k)) ∧ Below w.heap.size w wr)
  case atStart => exact ⟨0, by omega, rfl, by simpa [underTo, ints] using World.ownsRow_nil w w.heap.size 3 1, Below.refl _ _⟩
  case round =>
    obtain ⟨k, hk, rfl, hown, hB⟩ := hrel
    have HK := Lib.hid hk
    clear hk
    by_cases hlt : k < ps.length
    · obtain ⟨q, hq⟩ : ∃ q, q = ps[k] := ⟨_, rfl⟩
      have hqi : ps[k]? = some q := by rw [hq]; exact List.getElem?_eq_getElem hlt
      have hqo : q.Ok := hq ▸ hok _ (List.getElem_mem _)
      have hqb : RowKit.Hid (bxAt ps k = q.box) := by show bxAt ps k = q.box; rw [hq]; exact bxAt_get ps k hlt
      obtain ⟨b', off', hA, hb', c0, c1, c2, c3, c4, c5, c6⟩ := (hps.below hB) k q hqi
      obtain ⟨rfl, rfl⟩ : b = b' ∧ off = off' := by simpa using hA
      obtain ⟨b', off', hA', hb', d0, d1, d2, d3, d4, d5, d6⟩ := (hps.below hB) i p HPI.out
      obtain ⟨rfl, rfl⟩ : b = b' ∧ off = off' := by simpa using hA'
      clear hq hqi hA hA' hb'
      have hB0 : Below wr.heap.size wr wr.drew := below_drewN (Below.refl _ _) 1
      have hlt0 : b < wr.heap.size := Nat.lt_of_lt_of_le hb hB.size
      go_wp2_with fail
      go_region_held3 (fun w' => Below wr.heap.size wr w' ∧ b < w'.heap.size ∧ w'.cell? ⟨b, off + k * 7, none⟩ = some (.int .i64 q.x) ∧ w'.cell? ⟨b, off + k * 7 + 1, none⟩ = some (.int .i64 q.y) ∧ w'.cell? ⟨b, off + k * 7 + 2, none⟩ = some (.int .i64 q.z) ∧ w'.cell? ⟨b, off + k * 7 + 3, none⟩ = some (.int .i64 q.l) ∧ w'.cell? ⟨b, off + k * 7 + 4, none⟩ = some (.int .i64 q.w) ∧ w'.cell? ⟨b, off + k * 7 + 5, none⟩ = some (.int .i64 q.h) ∧ w'.cell? ⟨b, off + k * 7 + 6, none⟩ = some (.int .i64 q.m) ∧ w'.cell? ⟨b, off + i * 7, none⟩ = some (.int .i64 p.x) ∧ w'.cell? ⟨b, off + i * 7 + 1, none⟩ = some (.int .i64 p.y) ∧ w'.cell? ⟨b, off + i * 7 + 2, none⟩ = some (.int .i64 p.z) ∧ w'.cell? ⟨b, off + i * 7 + 3, none⟩ = some (.int .i64 p.l) ∧ w'.cell? ⟨b, off + i * 7 + 4, none⟩ = some (.int .i64 p.w) ∧ w'.cell? ⟨b, off + i * 7 + 5, none⟩ = some (.int .i64 p.h) ∧ w'.cell? ⟨b, off + i * 7 + 6, none⟩ = some (.int .i64 p.m)) (simp [*])
        (first
          | (go_at_call 31; (with_reducible refine (boxOf_any p hpo _).mono ?_); rintro e w' ⟨rfl, hb2⟩; have hbc := fun o => (bcell hb2).1 b o (by assumption); have hlt2 : b < w'.heap.size := Nat.lt_of_lt_of_le (by assumption) hb2.size; have hB2 := below_next (a := wr) (by assumption) hb2)
          | (go_at_call 31; (with_reducible refine (boxOf_any q hqo _).mono ?_); rintro e w' ⟨rfl, hb2⟩; have hbc := fun o => (bcell hb2).1 b o (by assumption); have hlt2 : b < w'.heap.size := Nat.lt_of_lt_of_le (by assumption) hb2.size; have hB2 := below_next (a := wr) (by assumption) hb2)
          | (go_at_call 51; (with_reducible refine (rests_any _ _ _).mono ?_); rintro e w' ⟨rfl, hb2⟩; have hbc := fun o => (bcell hb2).1 b o (by assumption); have hlt2 : b < w'.heap.size := Nat.lt_of_lt_of_le (by assumption) hb2.size; have hB2 := below_next (a := wr) (by assumption) hb2))
      have hown3 := own_below hown hB2
      have hB3 : Below w.heap.size w w' := hB.trans (hB2.mono hB.size)
      have hsz3 := hB3.size
      clear c0 c1 c2 c3 c4 c5 c6 d0 d1 d2 d3 d4 d5 d6 hown hbc
      by_cases hr : p.box.rests q.box = true
      · have hrr : RowKit.Hid ((bxAt ps i).rests (bxAt ps k) = true) := by show (bxAt ps i).rests (bxAt ps k) = true; rw [hpb.out, hqb.out]; exact hr
        have hul := underTo_len ps i k
        rw [hr]
        clear hr
        go_wp2_with (at_builtin; refine wpList_append_own _ rfl _ _ 32 rfl w.heap.size 3 i0 (.int .i64 0) 1 8 Tryz.underlying32 hi0 hz0 hz1 hz2 rfl (by decide) _ _ _ rfl (hown3.alloc _) ⟨w'.heap.size, 0, none⟩ 1 1 [.int .i64 ((k : Nat) : Int)] rfl rfl ?c1 ?c2 ?c3 ?c4 ?c5 ?_)
        case c1 => exact cell_one_new _ _ _
        case c2 => intro u hu; simp at hu; subst hu; rfl
        case c3 => unfold maxLen; omega
        case c4 => omega
        case c5 => simp; omega
        intro v' w4 hown4 hgrow4 _
        have hB4 : Below w.heap.size w w4 := (hB3.alloc hB3.size _).grown hgrow4 (by simp; omega) (fun g e => by
          have := hown3.block_ge e
          omega)
        go_wp2_with fail
        go_roundg (gk - 1)
        case measure => have := HK.out; omega
        case rel =>
          refine ⟨k + 1, by have := HK.out; omega, by go_num, ?_, hB4⟩
          rw [underTo_yes ps i k hrr.out, ints_snoc]
          simpa using hown4
      · have hr' : p.box.rests q.box = false := by simpa using hr
        have hrr : RowKit.Hid ((bxAt ps i).rests (bxAt ps k) = false) := by show (bxAt ps i).rests (bxAt ps k) = false; rw [hpb.out, hqb.out]; exact hr'
        rw [hr']
        clear hr hr'
        go_wp2_with fail
        go_roundg (gk - 1)
        case measure => have := HK.out; omega
        case rel =>
          refine ⟨k + 1, by have := HK.out; omega, by go_num, ?_, hB3⟩
          rw [underTo_no ps i k hrr.out]
          exact hown3
    · obtain rfl : k = ps.length := by have := HK.out; omega
      clear HK
      go_wp2_with fail
      go_ret
      exact ⟨_, rfl, hown, hB⟩

end Go.Proofs.YtacmiobhnfeflaaGreat
