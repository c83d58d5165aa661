import Derived.Test.YtacmiobhnfeflaaGreatCompact
namespace Go.Proofs.YtacmiobhnfeflaaGreat
open Go.RowKit Go.Sort

/-- The order of points: by X, and then by Y. -/
def leP (a b : Pt) : Bool := decide (a.1 < b.1 ∨ a.1 = b.1 ∧ a.2 ≤ b.2)
def sortP (ps : List Pt) : List Pt := ps.mergeSort leP
theorem ltOf_cmpP (a b : Pt) : ltOf cmpP a b = decide (a.1 < b.1 ∨ a.1 = b.1 ∧ a.2 < b.2) := by
  unfold ltOf cmpP cmpI
  rcases Int.lt_trichotomy a.1 b.1 with h | h | h
  · simp [h, show a.1 ≠ b.1 by omega]
  · by_cases h2 : a.2 < b.2
    · simp [h, h2]
    · by_cases h3 : b.2 < a.2 <;> simp [h, h2, h3]
  · simp [h, show a.1 ≠ b.1 by omega, show ¬ a.1 < b.1 by omega]
theorem not_lt_le (x y : Pt) : (!(ltOf cmpP) y x) = leP x y := by
  rw [ltOf_cmpP]
  unfold leP
  by_cases h : y.1 < x.1 ∨ y.1 = x.1 ∧ y.2 < x.2
  · rw [decide_eq_true h, decide_eq_false (by omega)]; rfl
  · rw [decide_eq_false h, decide_eq_true (by omega)]; rfl
theorem swo_cmpP : SWO (ltOf cmpP) where
  irrefl x := by rw [ltOf_cmpP, decide_eq_false]; omega
  trans x y z h1 h2 := by
    rw [ltOf_cmpP, decide_eq_true_eq] at *
    omega
  ntrans x y z h1 h2 := by
    rw [ltOf_cmpP, decide_eq_false_iff_not] at *
    omega
theorem tot_cmpP (x y : Pt) (h1 : ltOf cmpP x y = false) (h2 : ltOf cmpP y x = false) : x = y := by
  rw [ltOf_cmpP, decide_eq_false_iff_not] at *
  exact Prod.ext (by omega) (by omega)

theorem sortPt_any {base g cap : Nat} (ps : List Pt) (hn : ps.length ≤ 1000000) (w : World) (h : OwnP w base g cap ps) :
    Calls Tryz.prog 83 #[.slice (some ⟨g, 0, none⟩) ps.length cap, .func (.func 109) #[] #[]] w fun e w' =>
      e = .returned (.tuple #[]) ∧ OwnP w' base g cap (sortP ps) ∧ w.grownBy w' (some g) := by
  have hs := AnyQ.slices_SortFunc_total Tryz.sortPt 2 Tryz.isAgg57 Tryz.sizeOf57 encPt encPt_len encPt_one cmpP swo_cmpP 109 #[] g 0 cap ps.toArray w
    (fun args w => enters_of Tryz.func109 (by kernel_rfl) rfl args w)
    (fun m os dk _ x y => (comparePt_any x y _).mono fun e w' h => h) h.holds h.lt (by simp; omega) tot_cmpP
  simp only [List.size_toArray] at hs
  refine hs.mono ?_
  rintro e w' ⟨rfl, n, os, rfl⟩
  have e1 : (ps.toArray.toList.mergeSort fun x y => !(ltOf cmpP) y x) = sortP ps := by
    unfold sortP
    congr 1
    funext x y
    exact not_lt_le x y
  rw [e1]
  exact ⟨rfl, h.put (by unfold sortP; exact List.length_mergeSort ps) n os⟩

end Go.Proofs.YtacmiobhnfeflaaGreat
