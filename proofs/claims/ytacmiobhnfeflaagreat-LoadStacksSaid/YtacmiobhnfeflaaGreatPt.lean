import Derived.Test.YtacmiobhnfeflaaGreatUnder
namespace Go.Proofs.YtacmiobhnfeflaaGreat
open Go.RowKit

abbrev Pt := Int × Int
/-- A point's two cells. -/
def encPt (p : Pt) : List Value := [.int .i64 p.1, .int .i64 p.2]
def flat (l : List Pt) : List Value := l.flatMap encPt
theorem flat_len (l : List Pt) : (flat l).length = l.length * 2 := by
  induction l with
  | nil => rfl
  | cons p l ih => simp [flat, encPt] at *; omega
theorem flat_append (l m : List Pt) : flat (l ++ m) = flat l ++ flat m := by simp [flat]
theorem flat_get0 (l : List Pt) (i : Nat) (p : Pt) (h : l[i]? = some p) : (flat l)[i * 2]? = some (.int .i64 p.1) := by
  induction l generalizing i with
  | nil => simp at h
  | cons q l ih =>
    cases i with
    | zero =>
      simp at h
      subst h
      rfl
    | succ i =>
      have := ih i (by simpa using h)
      rw [show (i + 1) * 2 = i * 2 + 1 + 1 from by omega]
      simpa [flat, encPt] using this
theorem flat_get1 (l : List Pt) (i : Nat) (p : Pt) (h : l[i]? = some p) : (flat l)[i * 2 + 1]? = some (.int .i64 p.2) := by
  induction l generalizing i with
  | nil => simp at h
  | cons q l ih =>
    cases i with
    | zero =>
      simp at h
      subst h
      rfl
    | succ i =>
      have := ih i (by simpa using h)
      rw [show (i + 1) * 2 + 1 = i * 2 + 1 + 1 + 1 from by omega]
      simpa [flat, encPt] using this
theorem flat_one (l : List Pt) : ∀ v ∈ flat l, v.oneCell' = true := by
  intro v hv
  unfold flat at hv
  obtain ⟨p, _, hp⟩ := List.mem_flatMap.1 hv
  simp [encPt] at hp
  rcases hp with rfl | rfl <;> rfl
theorem flat_take (l : List Pt) (k : Nat) : (flat l).take (k * 2) = flat (l.take k) := by
  induction l generalizing k with
  | nil => simp [flat]
  | cons q l ih =>
    cases k with
    | zero => simp [flat]
    | succ k =>
      rw [show (k + 1) * 2 = k * 2 + 1 + 1 from by omega]
      have := ih k
      simp [flat, encPt] at *
      exact this

/-- The points ps lie at A, in a block below B. -/
def PtsAt (w : World) (B : Nat) (A : Option Addr) (ps : List Pt) : Prop :=
  ∀ (i : Nat) (p : Pt), ps[i]? = some p → ∃ b off, A = some ⟨b, off, none⟩ ∧ b < B ∧
    w.cell? ⟨b, off + i * 2, none⟩ = some (.int .i64 p.1) ∧ w.cell? ⟨b, off + i * 2 + 1, none⟩ = some (.int .i64 p.2)
theorem PtsAt.keep {w w' : World} {B B' : Nat} {A : Option Addr} {ps : List Pt} (h : PtsAt w B A ps) (hB : B ≤ B') (hk : ∀ b o, b < B → w'.cell? ⟨b, o, none⟩ = w.cell? ⟨b, o, none⟩) : PtsAt w' B' A ps := by
  intro i p hp
  obtain ⟨b, off, hA, hb, h0, h1⟩ := h i p hp
  exact ⟨b, off, hA, by omega, (hk _ _ hb).trans h0, (hk _ _ hb).trans h1⟩
theorem PtsAt.below {w w' : World} {B : Nat} {A : Option Addr} {ps : List Pt} (h : PtsAt w B A ps) (hb : Below B w w') : PtsAt w' B A ps :=
  h.keep (Nat.le_refl _) fun b o hlt => hb.cell (p := ⟨b, o, none⟩) hlt
theorem PtsAt.more {w : World} {B B' : Nat} {A : Option Addr} {ps : List Pt} (h : PtsAt w B A ps) (hB : B ≤ B') : PtsAt w B' A ps := h.keep hB fun _ _ _ => rfl
theorem PtsAt.nil (w : World) (B : Nat) (A : Option Addr) : PtsAt w B A [] := fun i p h => by simp at h
/-- What a slice of the call's own owns lies where it points. -/
theorem PtsAt.of_own {w : World} {base g cap : Nat} {e : TypeId} {ps : List Pt} {n : Nat} (h : w.ownsRow base e 2 (.slice (some ⟨g, 0, none⟩) n cap) n (flat ps)) : PtsAt w w.heap.size (some ⟨g, 0, none⟩) ps := by
  intro i p hp
  have hlt : g < w.heap.size := by
    rcases h.2 with ⟨h0, _⟩ | ⟨g', cap', cur, hv, _, hh, _⟩
    · cases h0
    · injection hv with e1
      injection e1 with e1
      injection e1 with e1
      subst e1
      exact (Array.getElem?_eq_some_iff.1 hh).1
  refine ⟨g, 0, rfl, hlt, ?_, ?_⟩
  · have := h.cells (g := g) rfl (i * 2) _ (flat_get0 ps i p hp)
    rwa [Addr.add_lit] at this
  · have := h.cells (g := g) rfl (i * 2 + 1) _ (flat_get1 ps i p hp)
    rw [Addr.add_lit] at this
    exact this

/-- The place of a point is within the bounds of layer 1. -/
def ptOk (p : Pt) : Bool := decide ((-16777216 ≤ p.1 ∧ p.1 ≤ 16777216) ∧ (-16777216 ≤ p.2 ∧ p.2 ≤ 16777216))

set_option maxHeartbeats 400000 in
theorem within_any (x lo hi : Int) (w : World) :
    Calls Tryz.prog 129 #[.int .i64 x, .int .i64 lo, .int .i64 hi] w fun e w' => e = .returned (.bool (decide (lo ≤ x ∧ x ≤ hi))) ∧ w = w' := by
  go_enter Tryz.func129, Tryz.ntmps129
  go_wp2
  all_goals
    go_ret
    refine ⟨?_, rfl⟩
    apply ret_bool
    first | (simp; done) | (simp; omega)
theorem within_yes (x lo hi : Int) (h : lo ≤ x ∧ x ≤ hi) (w : World) :
    Calls Tryz.prog 129 #[.int .i64 x, .int .i64 lo, .int .i64 hi] w fun e w' => e = .returned (.bool true) ∧ w = w' :=
  (within_any x lo hi w).mono fun e w' ⟨he, hw⟩ => ⟨by rw [he, decide_eq_true h], hw⟩
theorem within_no (x lo hi : Int) (h : ¬ (lo ≤ x ∧ x ≤ hi)) (w : World) :
    Calls Tryz.prog 129 #[.int .i64 x, .int .i64 lo, .int .i64 hi] w fun e w' => e = .returned (.bool false) ∧ w = w' :=
  (within_any x lo hi w).mono fun e w' ⟨he, hw⟩ => ⟨by rw [he, decide_eq_false h], hw⟩

set_option maxRecDepth 100000 in
set_option maxHeartbeats 2000000 in
theorem valid_any (A : Option Addr) (cap : Nat) (ps : List Pt) (hn : ps.length ≤ 1000000) (w : World) (hps : PtsAt w w.heap.size A ps) :
    Calls Tryz.prog 108 #[.slice A ps.length cap] w fun e w' => e = .returned (.bool (ps.all ptOk)) ∧ Below w.heap.size w w' := by
  go_enter Tryz.func108, Tryz.ntmps108
  go_wp2_with fail
  go_loopg [7] (ps.length) (fun m c wr => ∃ k, k + m = ps.length ∧ c = .int .i64 (k : Nat) ∧ RowKit.Hid (∀ j p, j < k → ps[j]? = some p → ptOk p = true) ∧ Below w.heap.size w wr)
  case atStart => exact ⟨0, by omega, rfl, fun j p hj => absurd hj (by omega), Below.refl _ _⟩
  case round =>
    obtain ⟨k, hk, rfl, hok, hB⟩ := hrel
    have HK := Lib.hid hk
    clear hk
    by_cases hlt : k < ps.length
    · obtain ⟨p, hp⟩ : ∃ p, ps[k]? = some p := ⟨_, List.getElem?_eq_getElem hlt⟩
      obtain ⟨b, off, hA, hb, c0, c1⟩ := (hps.below hB) k p hp
      have HP := Lib.hid hp
      clear hp
      subst hA
      have hB1 := hB.alloc hB.size (.cells #[.int .i64 p.1, .int .i64 p.2] 57)
      have stop : ptOk p = false → RowKit.Hid (ps.all ptOk = false) := fun h => by
        show ps.all ptOk = false
        rw [List.all_eq_false]
        exact ⟨p, List.mem_of_getElem? HP.out, by simp [h]⟩
      have STOP := Lib.hid stop
      clear stop
      by_cases h1 : -16777216 ≤ p.1 ∧ p.1 ≤ 16777216
      · by_cases h2 : -16777216 ≤ p.2 ∧ p.2 ≤ 16777216
        · have H1 := Lib.hid h1
          have H2 := Lib.hid h2
          clear h1 h2
          go_wp2_with fail
          (with_reducible refine (within_yes _ _ _ H1.out _).mono ?_)
          rintro e w2 ⟨rfl, rfl⟩
          go_wp2_with fail
          (with_reducible refine (within_yes _ _ _ H2.out _).mono ?_)
          rintro e w2 ⟨rfl, rfl⟩
          go_wp2_with fail
          go_roundg (gk - 1)
          case measure => have := HK.out; omega
          case rel =>
            refine ⟨k + 1, by have := HK.out; omega, by go_num, ?_, hB1⟩
            intro j q hj hq
            by_cases hj' : j = k
            · subst hj'
              have := HP.out
              rw [this] at hq
              cases hq
              unfold ptOk
              exact decide_eq_true ⟨H1.out, H2.out⟩
            · exact hok j q (by omega) hq
        · have HS := STOP.out (by unfold ptOk; exact decide_eq_false fun hh => h2 hh.2)
          have H1 := Lib.hid h1
          have H2 := Lib.hid h2
          clear h1 h2
          go_wp2_with fail
          (with_reducible refine (within_yes _ _ _ H1.out _).mono ?_)
          rintro e w2 ⟨rfl, rfl⟩
          go_wp2_with fail
          (with_reducible refine (within_no _ _ _ H2.out _).mono ?_)
          rintro e w2 ⟨rfl, rfl⟩
          go_wp2_with fail
          go_ret
          exact ⟨ret_bool HS.out.symm, hB1⟩
      · have HS := STOP.out (by unfold ptOk; exact decide_eq_false fun hh => h1 hh.1)
        have H1 := Lib.hid h1
        clear h1
        go_wp2_with fail
        (with_reducible refine (within_no _ _ _ H1.out _).mono ?_)
        rintro e w2 ⟨rfl, rfl⟩
        go_wp2_with fail
        go_ret
        exact ⟨ret_bool HS.out.symm, hB1⟩
    · have hall : ps.all ptOk = true := by
        rw [List.all_eq_true]
        intro p hp
        obtain ⟨j, hj, e⟩ := List.getElem_of_mem hp
        exact hok j p (by have := HK.out; omega) (by rw [List.getElem?_eq_getElem hj, e])
      have HALL := Lib.hid hall
      clear hall hok
      obtain rfl : k = ps.length := by have := HK.out; omega
      clear HK
      go_wp2_with fail
      go_ret
      exact ⟨ret_bool HALL.out.symm, hB⟩

end Go.Proofs.YtacmiobhnfeflaaGreat
