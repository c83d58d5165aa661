import Derived.Test.YtacmiobhnfeflaaGreatUnder
namespace Go.Proofs.YtacmiobhnfeflaaGreat
open Go.RowKit

/-- What is carried by the piece i: itself, and whatever rests on such a piece. -/
inductive Reach (ps : List Pc) (i : Nat) : Nat → Prop
  | refl : Reach ps i i
  | step {x k : Nat} : Reach ps i x → k < ps.length → (bxAt ps k).rests (bxAt ps x) = true → Reach ps i k

theorem Reach.lt {ps : List Pc} {i x : Nat} (h : Reach ps i x) (hi : i < ps.length) : x < ps.length := by
  cases h with
  | refl => exact hi
  | step _ hk _ => exact hk
theorem Reach.trans {ps : List Pc} {i x y : Nat} (h : Reach ps i x) (h2 : Reach ps x y) : Reach ps i y := by
  induction h2 with
  | refl => exact h
  | step _ hk hr ih => exact .step ih hk hr

structure OverInv (ps : List Pc) (i n : Nat) (out : List Nat) : Prop where
  nd : out.Nodup
  re : ∀ x ∈ out, Reach ps i x
  mem : i ∈ out
  cl : ∀ j x, j < n → out[j]? = some x → ∀ k, k < ps.length → (bxAt ps k).rests (bxAt ps x) = true → k ∈ out
structure InnerInv (ps : List Pc) (i n k : Nat) (out : List Nat) : Prop where
  inv : OverInv ps i n out
  part : ∀ x, out[n]? = some x → ∀ j, j < k → (bxAt ps j).rests (bxAt ps x) = true → j ∈ out

theorem OverInv.start (ps : List Pc) (i : Nat) : OverInv ps i 0 [i] :=
  ⟨by simp, fun x hx => by simp at hx; subst hx; exact .refl, by simp, fun j x hj => absurd hj (by omega)⟩
theorem OverInv.len {ps : List Pc} {i n : Nat} {out : List Nat} (h : OverInv ps i n out) (hi : i < ps.length) : out.length ≤ ps.length := by
  have := List.Nodup.length_le_of_subset (l₂ := List.range ps.length) h.nd (fun x hx => List.mem_range.2 ((h.re x hx).lt hi))
  simpa using this
theorem OverInv.inner {ps : List Pc} {i n : Nat} {out : List Nat} (h : OverInv ps i n out) : InnerInv ps i n 0 out := ⟨h, fun _ _ j hj => absurd hj (by omega)⟩
theorem InnerInv.done {ps : List Pc} {i n : Nat} {out : List Nat} (h : InnerInv ps i n ps.length out) : OverInv ps i (n + 1) out :=
  ⟨h.inv.nd, h.inv.re, h.inv.mem, fun j x hj hx k hk hr => by
    by_cases hjn : j = n
    · subst hjn
      exact h.part x hx k hk hr
    · exact h.inv.cl j x (by omega) hx k hk hr⟩
theorem InnerInv.none {ps : List Pc} {i n k x : Nat} {out : List Nat} (h : InnerInv ps i n k out) (hx : out[n]? = some x) (hr : (bxAt ps k).rests (bxAt ps x) = false) : InnerInv ps i n (k + 1) out :=
  ⟨h.inv, fun y hy j hj hjr => by
    rw [hx] at hy
    cases hy
    by_cases hjk : j = k
    · subst hjk
      rw [hr] at hjr
      cases hjr
    · exact h.part x hx j (by omega) hjr⟩
theorem InnerInv.old {ps : List Pc} {i n k : Nat} {out : List Nat} (h : InnerInv ps i n k out) (hk : k ∈ out) : InnerInv ps i n (k + 1) out :=
  ⟨h.inv, fun y hy j hj hjr => by
    by_cases hjk : j = k
    · subst hjk
      exact hk
    · exact h.part y hy j (by omega) hjr⟩
theorem InnerInv.new {ps : List Pc} {i n k x : Nat} {out : List Nat} (h : InnerInv ps i n k out) (hx : out[n]? = some x) (hr : (bxAt ps k).rests (bxAt ps x) = true) (hkl : k < ps.length) (hk : k ∉ out) : InnerInv ps i n (k + 1) (out ++ [k]) := by
  have hn : n < out.length := (List.getElem?_eq_some_iff.1 hx).1
  refine ⟨⟨?_, ?_, ?_, ?_⟩, ?_⟩
  · rw [List.nodup_append]
    refine ⟨h.inv.nd, by simp, ?_⟩
    intro a ha b hb
    simp at hb
    subst hb
    intro e
    subst e
    exact hk ha
  · intro y hy
    rw [List.mem_append] at hy
    rcases hy with hy | hy
    · exact h.inv.re y hy
    · simp at hy
      subst hy
      exact .step (h.inv.re x (List.mem_of_getElem? hx)) hkl hr
  · exact List.mem_append_left _ h.inv.mem
  · intro j y hj hy m hm hmr
    rw [List.getElem?_append_left (by omega)] at hy
    exact List.mem_append_left _ (h.inv.cl j y hj hy m hm hmr)
  · intro y hy j hj hjr
    rw [List.getElem?_append_left hn] at hy
    by_cases hjk : j = k
    · subst hjk
      exact List.mem_append_right _ (by simp)
    · exact List.mem_append_left _ (h.part y hy j (by omega) hjr)
theorem OverInv.all {ps : List Pc} {i n : Nat} {out : List Nat} (h : OverInv ps i n out) (hn : out.length ≤ n) (x : Nat) : x ∈ out ↔ Reach ps i x := by
  refine ⟨h.re x, fun hr => ?_⟩
  induction hr with
  | refl => exact h.mem
  | step _ hk hr ih =>
    obtain ⟨j, hj, e⟩ := List.getElem_of_mem ih
    exact h.cl j _ (by omega) (by rw [List.getElem?_eq_getElem hj, e]) _ hk hr

/-- The numbers of what is carried, in order. -/
def IsOver (ps : List Pc) (i : Nat) (l : List Nat) : Prop := l.Pairwise (· ≤ ·) ∧ l.Nodup ∧ ∀ x, x ∈ l ↔ Reach ps i x

/-- The whole numbers of a list, and back. -/
def toInts (l : List Nat) : List Int := l.map fun k : Nat => (k : Int)
def sortedN (l : List Nat) : List Nat := ((toInts l).mergeSort fun x y => decide (x ≤ y)).map Int.toNat
theorem sortedN_perm (l : List Nat) : (sortedN l).Perm l := by
  unfold sortedN
  have h := (List.mergeSort_perm (toInts l) fun x y => decide (x ≤ y)).map Int.toNat
  have e : (toInts l).map Int.toNat = l := by
    unfold toInts
    rw [List.map_map]
    conv => rhs; rw [← List.map_id l]
    apply List.map_congr_left
    intro x _
    simp
  rwa [e] at h
theorem sortedN_ints (l : List Nat) : ((toInts l).mergeSort fun x y => decide (x ≤ y)) = toInts (sortedN l) := by
  unfold sortedN
  conv => rhs; unfold toInts
  rw [List.map_map]
  conv => lhs; rw [← List.map_id ((toInts l).mergeSort fun x y => decide (x ≤ y))]
  apply List.map_congr_left
  intro x hx
  have hx' : x ∈ toInts l := (List.mergeSort_perm (toInts l) _).mem_iff.1 hx
  unfold toInts at hx'
  obtain ⟨k, _, rfl⟩ := List.mem_map.1 hx'
  simp
theorem sortedN_sorted (l : List Nat) : (sortedN l).Pairwise (· ≤ ·) := by
  unfold sortedN
  rw [List.pairwise_map]
  have h := List.pairwise_mergeSort (le := fun x y : Int => decide (x ≤ y)) (fun a b c h1 h2 => by simp at *; omega) (fun a b => by simp; omega) (toInts l)
  exact h.imp fun {a b} hab => by
    have : a ≤ b := by simpa using hab
    omega
theorem ints_toInts (l : List Nat) : ints l = (toInts l).map (Value.int .i64) := by
  unfold ints toInts
  rw [List.map_map]
  rfl
theorem OverInv.sorted {ps : List Pc} {i n : Nat} {out : List Nat} (h : OverInv ps i n out) (hn : out.length ≤ n) : IsOver ps i (sortedN out) :=
  ⟨sortedN_sorted out, (sortedN_perm out).nodup_iff.2 h.nd, fun x => ((sortedN_perm out).mem_iff).trans (h.all hn x)⟩

end Go.Proofs.YtacmiobhnfeflaaGreat
