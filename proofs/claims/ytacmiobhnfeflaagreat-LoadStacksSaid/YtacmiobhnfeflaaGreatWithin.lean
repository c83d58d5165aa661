import Derived.Test.YtacmiobhnfeflaaGreatCheck
import Derived.Test.YtacmiobhnfeflaaGreatUnder
namespace Go.Proofs.YtacmiobhnfeflaaGreat
open Go.RowKit

/-- Whole numbers lie at A. -/
def IntsAt (w : World) (A : Option Addr) (l : List Nat) : Prop :=
  ∀ (i x : Nat), l[i]? = some x → ∃ b off, A = some ⟨b, off, none⟩ ∧ b < w.heap.size ∧ w.cell? ⟨b, off + i, none⟩ = some (.int .i64 (x : Int))
theorem IntsAt.below {w w' : World} {A : Option Addr} {l : List Nat} (h : IntsAt w A l) (hb : Below w.heap.size w w') : IntsAt w' A l := fun i x hx => by
  obtain ⟨b, off, hA, hlt, hc⟩ := h i x hx
  exact ⟨b, off, hA, Nat.lt_of_lt_of_le hlt hb.size, (hb.cell (p := ⟨b, off + i, none⟩) hlt).trans hc⟩
theorem IntsAt.of_own {w : World} {base : Nat} {v : Value} {l : List Nat} (h : w.ownsRow base 3 1 v l.length (ints l)) : ∃ A cap, v = .slice A l.length cap ∧ IntsAt w A l := by
  rcases h.2 with ⟨hn, h0⟩ | ⟨g, cap, cur, hv, hg, hh, hr⟩
  · have e : l = [] := List.eq_nil_of_length_eq_zero (by have := h0; simp at this; omega)
    subst e
    exact ⟨none, 0, hn, fun i x hx => by simp at hx⟩
  · subst hv
    have hlt : g < w.heap.size := (Array.getElem?_eq_some_iff.1 hh).1
    refine ⟨_, cap, rfl, fun i x hx => ⟨g, 0, rfl, hlt, ?_⟩⟩
    have := h.cells (g := g) rfl i (.int .i64 (x : Int)) (by unfold ints; rw [List.getElem?_map, hx]; rfl)
    rwa [Addr.add_lit] at this

/-- Nothing but draws. -/
def Drewn (w w' : World) : Prop := ∃ n, w' = w.drewN n
theorem Drewn.refl (w : World) : Drewn w w := ⟨0, rfl⟩
theorem Drewn.drewN {w w' : World} (h : Drewn w w') (n : Nat) : Drewn w (w'.drewN n) := by
  obtain ⟨m, rfl⟩ := h
  exact ⟨m + n, World.drewN_drewN _ _ _⟩
theorem Drewn.below {w w' : World} (h : Drewn w w') : Below w.heap.size w w' := by
  obtain ⟨m, rfl⟩ := h
  exact below_drewN (Below.refl _ _) m
def withinS (a b : List Nat) : Bool := a.all fun x => b.contains x

set_option maxRecDepth 100000 in
set_option maxHeartbeats 2000000 in
theorem within_ints (A B : Option Addr) (ca cb : Nat) (a b : List Nat) (ha : a.length ≤ 1000000) (hb : b.length ≤ 1000000) (w : World) (hA : IntsAt w A a) (hB : IntsAt w B b) :
    Calls Tryz.prog 11 #[.slice A a.length ca, .slice B b.length cb] w fun e w' => e = .returned (.bool (withinS a b)) ∧ Drewn w w' := by
  go_enter Tryz.func11, Tryz.ntmps11
  go_wp2_with fail
  go_loopg [5] (a.length) (fun m c wr => ∃ k, RowKit.Hid (k + m = a.length) ∧ c = .int .i64 (k : Nat) ∧ RowKit.Hid (∀ j x, j < k → a[j]? = some x → x ∈ b) ∧ Drewn w wr)
  case atStart => exact ⟨0, by show 0 + _ = _; omega, rfl, fun j x hj => absurd hj (by omega), Drewn.refl _⟩
  case round =>
    obtain ⟨k, HK, rfl, hok, hW⟩ := hrel
    by_cases hlt : k < a.length
    · obtain ⟨x, hx⟩ : ∃ x, a[k]? = some x := ⟨_, List.getElem?_eq_getElem hlt⟩
      obtain ⟨ba, offa, rfl, _, ca0⟩ := (hA.below hW.below) k x hx
      have HX := Lib.hid hx
      clear hx
      obtain ⟨go, hgo⟩ : ∃ go, go = gk - 1 := ⟨_, rfl⟩
      have HKO : RowKit.Hid (k + 1 + go = a.length) := by show k + 1 + go = a.length; have := HK.out; omega
      have hgl : go < gk := by have := HK.out; omega
      clear hgo
      go_wp2_with fail
      obtain ⟨wo, rfl⟩ : ∃ wo : World, wo = wr := ⟨_, rfl⟩
      go_loopg [6, 7] (b.length) (fun m f c wr => ∃ n, RowKit.Hid (n + m = b.length) ∧ c = .int .i64 (n : Nat) ∧ (∃ t : Bool, f = .bool t ∧ RowKit.Hid (t = (b.take n).contains x)) ∧ Drewn w wr)
      case atStart => exact ⟨0, by show 0 + _ = _; omega, rfl, ⟨false, rfl, by show false = _; simp⟩, hW⟩
      case round =>
        obtain ⟨n, HN, rfl, ⟨t, rfl, HT⟩, hW2⟩ := hrel
        by_cases hlt2 : n < b.length
        · obtain ⟨y, hy⟩ : ∃ y, b[n]? = some y := ⟨_, List.getElem?_eq_getElem hlt2⟩
          have hy' : b.take (n + 1) = b.take n ++ [y] := by rw [List.take_add_one, hy]; rfl
          obtain ⟨bb, offb, hBe, _, cb0⟩ := (hB.below hW2.below) n y hy
          obtain ⟨ba', offa', hAe, _, ca1⟩ := (hA.below hW2.below) k x HX.out
          injection hAe with e1
          injection e1 with e1 e2
          subst e1; subst e2
          subst hBe
          have HY := Lib.hid hy'
          clear hy' hy ca0
          cases t with
          | true =>
            go_wp2_with fail
            go_quiet (fail)
            go_wp2_with fail
            go_roundg (gk - 1)
            case measure => have := HN.out; omega
            case rel =>
              refine ⟨n + 1, by show n + 1 + (gk - 1) = _; have := HN.out; omega, by go_num, ⟨true, rfl, ?_⟩, hW2.drewN _⟩
              show true = _
              have := HT.out
              rw [HY.out]
              simp at this ⊢
              exact .inl this
          | false =>
            by_cases hxy : x = y
            · subst hxy
              go_wp2_with fail
              go_quiet (fail)
              go_wp2_with fail
              go_roundg (gk - 1)
              case measure => have := HN.out; omega
              case rel =>
                refine ⟨n + 1, by show n + 1 + (gk - 1) = _; have := HN.out; omega, by go_num, ⟨true, rfl, ?_⟩, hW2.drewN _⟩
                show true = _
                rw [HY.out]
                simp
            · have hd : ((x : Int) == (y : Int)) = false := by simp; omega
              go_wp2_with fail
              go_quiet (fail)
              go_wp2_with fail
              go_roundg (gk - 1)
              case measure => have := HN.out; omega
              case rel =>
                refine ⟨n + 1, by show n + 1 + (gk - 1) = _; have := HN.out; omega, by go_num, ⟨false, rfl, ?_⟩, hW2.drewN _⟩
                show false = _
                have := HT.out
                rw [HY.out]
                simp at this ⊢
                exact ⟨this, hxy⟩
        · obtain rfl : n = b.length := by have := HN.out; omega
          cases t with
          | true =>
            go_wp2_with fail
            go_roundg go
            case measure => omega
            case rel =>
              refine ⟨k + 1, HKO, by go_num, fun j z hj hz => ?_, hW2⟩
              by_cases e : j = k
              · subst e
                rw [HX.out] at hz
                cases hz
                have := HT.out
                simpa using this.symm
              · exact hok.out j z (by omega) hz
          | false =>
            go_wp2_with fail
            go_ret
            refine ⟨ret_bool ?_, hW2⟩
            have h1 := HT.out
            simp at h1
            symm
            unfold withinS
            rw [List.all_eq_false]
            exact ⟨x, List.mem_of_getElem? HX.out, by simpa using h1⟩
    · obtain rfl : k = a.length := by have := HK.out; omega
      go_wp2_with fail
      go_ret
      refine ⟨ret_bool ?_, hW⟩
      symm
      unfold withinS
      rw [List.all_eq_true]
      intro x hx
      obtain ⟨j, hj, e⟩ := List.getElem_of_mem hx
      have := hok.out j x hj (by rw [List.getElem?_eq_getElem hj, e])
      simpa using this

set_option maxHeartbeats 1000000 in
theorem great_any (A E : Option Addr) (cap cap' : Nat) (L : Ld) (g : Bool) (hg : g = !decide (L.ps.length ≤ 40 ∧ L.es.length ≤ 40 ∧ L.name.size ≤ 100)) (w : World) :
    Calls Tryz.prog 5 #[.agg #[.string L.name, .slice A L.ps.length cap, .slice E L.es.length cap', .int .i64 L.fr]] w fun e w' =>
      e = .returned (.bool g) ∧ Below w.heap.size w w' := by
  have HG := Lib.hid hg
  clear hg
  by_cases h1 : L.ps.length ≤ 40
  · have d1 : decide (40 < (L.ps.length : Int)) = false := by simp; omega
    by_cases h2 : L.es.length ≤ 40
    · have d2 : decide (40 < (L.es.length : Int)) = false := by simp; omega
      by_cases h3 : L.name.size ≤ 100
      · have d3 : decide (100 < (L.name.size : Int)) = false := by simp; omega
        have hG : RowKit.Hid (g = false) := by show g = false; rw [HG.out, decide_eq_true ⟨h1, h2, h3⟩]; rfl
        go_enter Tryz.func5, Tryz.ntmps5
        go_wp2_with fail
        go_ret
        exact ⟨ret_bool hG.out.symm, (Below.refl _ _).alloc (Nat.le_refl _) _⟩
      · have d3 : decide (100 < (L.name.size : Int)) = true := by simp; omega
        have hG : RowKit.Hid (g = true) := by show g = true; rw [HG.out, decide_eq_false (fun h => h3 h.2.2)]; rfl
        go_enter Tryz.func5, Tryz.ntmps5
        go_wp2_with fail
        go_ret
        exact ⟨ret_bool hG.out.symm, (Below.refl _ _).alloc (Nat.le_refl _) _⟩
    · have d2 : decide (40 < (L.es.length : Int)) = true := by simp; omega
      have hG : RowKit.Hid (g = true) := by show g = true; rw [HG.out, decide_eq_false (fun h => h2 h.2.1)]; rfl
      go_enter Tryz.func5, Tryz.ntmps5
      go_wp2_with fail
      go_ret
      exact ⟨ret_bool hG.out.symm, (Below.refl _ _).alloc (Nat.le_refl _) _⟩
  · have d1 : decide (40 < (L.ps.length : Int)) = true := by simp; omega
    have hG : RowKit.Hid (g = true) := by show g = true; rw [HG.out, decide_eq_false (fun h => h1 h.1)]; rfl
    go_enter Tryz.func5, Tryz.ntmps5
    go_wp2_with fail
    go_ret
    exact ⟨ret_bool hG.out.symm, (Below.refl _ _).alloc (Nat.le_refl _) _⟩

end Go.Proofs.YtacmiobhnfeflaaGreat
