import Derived.Test.YtacmiobhnfeflaaGreatCont
import Derived.Test.YtacmiobhnfeflaaGreatOver
namespace Go.Proofs.YtacmiobhnfeflaaGreat
open Go.RowKit

/-- The part of a box's plan that lies over another one. -/
def cutS (a b : Bx) : Bx := ⟨max a.x0 b.x0, max a.y0 b.y0, b.z0, min a.x1 b.x1, min a.y1 b.y1, b.z1⟩
def areasS (ps : List Pc) (i : Nat) : List Bx := (underS ps i).map fun k => cutS (bxAt ps i) (bxAt ps k)
def wtOf (ps : List Pc) (l : List Nat) : Wt := (l.map (ps[·]!)).foldl Wt.add Wt.zero
def wtS (ps : List Pc) (i : Nat) (l : List Nat) : Wt := if (wtOf ps l).m = 0 then (wtOf ps l).add { ps[i]! with m := 1 } else wtOf ps l
/-- Does a piece stand? l: what it carries. -/
def standsS (ps : List Pc) (i : Nat) (l : List Nat) : Bool :=
  if ps[i]!.z = 0 then true else if underS ps i = [] then false else containsS (cornersS (csOf (areasS ps i))) (wtS ps i l).a (wtS ps i l).b (2 * (wtS ps i l).m)

/-- The sum of numbers of a list. -/
def sumF (f : Nat → Int) : List Nat → Int
  | [] => 0
  | a :: l => f a + sumF f l
theorem sumF_perm (f : Nat → Int) {l m : List Nat} (h : l.Perm m) : sumF f l = sumF f m := by
  induction h with
  | nil => rfl
  | cons a _ ih => simp [sumF, ih]
  | swap a b l => simp only [sumF]; omega
  | trans _ _ ih1 ih2 => exact ih1.trans ih2
theorem sumF_nonneg (f : Nat → Int) (hf : ∀ k, 0 ≤ f k) (l : List Nat) : 0 ≤ sumF f l := by
  induction l with
  | nil => exact Int.le_refl _
  | cons a l ih => have := hf a; simp only [sumF]; omega
theorem sumF_le (f : Nat → Int) (hf : ∀ k, 0 ≤ f k) : ∀ (l m : List Nat), l.Nodup → (∀ x ∈ l, x ∈ m) → sumF f l ≤ sumF f m
  | [], m, _, _ => sumF_nonneg f hf m
  | a :: l, m, hnd, hsub => by
    have ha : a ∈ m := hsub a (by simp)
    rw [sumF_perm f (List.perm_cons_erase ha)]
    have hnd' := List.nodup_cons.1 hnd
    have := sumF_le f hf l (m.erase a) hnd'.2 fun x hx => by
      have hne : x ≠ a := fun e => hnd'.1 (e ▸ hx)
      exact (List.mem_erase_of_ne hne).2 (hsub x (List.mem_cons_of_mem _ hx))
    simp only [sumF]
    omega

/-- Moments that are not greater than the mass allows. -/
structure Wt.Bd (t : Wt) : Prop where
  m : 0 ≤ t.m
  a1 : -(t.m * 262144) ≤ t.a
  a2 : t.a ≤ t.m * 262144
  b1 : -(t.m * 262144) ≤ t.b
  b2 : t.b ≤ t.m * 262144
  c1 : -(t.m * 262144) ≤ t.c
  c2 : t.c ≤ t.m * 262144
theorem Wt.Bd.zero : Wt.zero.Bd := ⟨by decide, by decide, by decide, by decide, by decide, by decide, by decide⟩
theorem Wt.Bd.add {t : Wt} (h : t.Bd) (p : Pc) (hp : p.Ok) : (t.add p).Bd := by
  obtain ⟨⟨x1, x2⟩, ⟨y1, y2⟩, z1, z2⟩ := Pc.box_bd hp
  have hm1 := hp.m1
  have bd : ∀ s : Int, -262144 ≤ s → s ≤ 262144 → -(p.m * 262144) ≤ p.m * s ∧ p.m * s ≤ p.m * 262144 := by
    intro s s1 s2
    have e1 := Int.mul_le_mul_of_nonneg_left s2 hm1
    have e2 := Int.mul_le_mul_of_nonneg_left s1 hm1
    omega
  have qx := bd _ x1 x2
  have qy := bd _ y1 y2
  have qz := bd _ z1 z2
  obtain ⟨m, a1, a2, b1, b2, c1, c2⟩ := h
  unfold Wt.add
  constructor <;> dsimp only <;> omega
theorem foldl_bd (l : List Pc) : ∀ (t : Wt), t.Bd → (∀ p ∈ l, p.Ok) → (l.foldl Wt.add t).Bd := by
  induction l with
  | nil => exact fun t h _ => h
  | cons p l ih => exact fun t h hok => ih _ (h.add p (hok p (by simp))) fun q hq => hok q (List.mem_cons_of_mem _ hq)
theorem foldl_m (l : List Pc) : ∀ (t : Wt), (l.foldl Wt.add t).m = t.m + (l.map (·.m)).foldr (· + ·) 0 := by
  induction l with
  | nil => intro t; simp
  | cons p l ih => intro t; rw [List.foldl_cons, ih]; simp only [Wt.add, List.map_cons, List.foldr_cons]; omega
theorem sumF_map (ps : List Pc) (l : List Nat) : ((l.map (ps[·]!)).map (·.m)).foldr (· + ·) 0 = sumF (fun k => ps[k]!.m) l := by
  induction l with
  | nil => rfl
  | cons a l ih => simp only [List.map_cons, List.foldr_cons, sumF, ih]
theorem totalS_sum (ps : List Pc) : (totalS ps).m = sumF (fun k => ps[k]!.m) (List.range ps.length) := by
  have e : (List.range ps.length).map (ps[·]!) = ps := by
    apply List.ext_getElem
    · simp
    · intro i h1 h2
      simp [h2]
  have := foldl_m ps Wt.zero
  unfold totalS
  rw [this, ← sumF_map, e]
  simp [Wt.zero]
theorem wtOf_m (ps : List Pc) (l : List Nat) : (wtOf ps l).m = sumF (fun k => ps[k]!.m) l := by
  unfold wtOf
  rw [foldl_m, sumF_map]
  simp [Wt.zero]
theorem getOk {ps : List Pc} (hok : ∀ p ∈ ps, p.Ok) {k : Nat} (hk : k < ps.length) : ps[k]!.Ok := by
  rw [getElem!_pos ps k hk]
  exact hok _ (List.getElem_mem _)
theorem wtOf_bd {ps : List Pc} (hok : ∀ p ∈ ps, p.Ok) (l : List Nat) (hl : ∀ k ∈ l, k < ps.length) : (wtOf ps l).Bd := by
  refine foldl_bd _ _ Wt.Bd.zero ?_
  intro p hp
  obtain ⟨k, hk, rfl⟩ := List.mem_map.1 hp
  exact getOk hok (hl k hk)
theorem wtOf_le {ps : List Pc} (hok : ∀ p ∈ ps, p.Ok) (l : List Nat) (hnd : l.Nodup) (hl : ∀ k ∈ l, k < ps.length) : (wtOf ps l).m ≤ (totalS ps).m := by
  rw [wtOf_m, totalS_sum]
  have hf : ∀ k : Nat, 0 ≤ (ps[k]! : Pc).m := by
    intro k
    by_cases hk : k < ps.length
    · exact (getOk hok hk).m1
    · rw [getElem!_neg ps k hk]; decide
  exact sumF_le _ hf _ _ hnd fun x hx => List.mem_range.2 (hl x hx)
theorem wtOf_take (ps : List Pc) (l : List Nat) (k x : Nat) (h : l[k]? = some x) : wtOf ps (l.take (k + 1)) = (wtOf ps (l.take k)).add ps[x]! := by
  unfold wtOf
  rw [← take_succ_get h, List.map_append, List.foldl_append]
  rfl
theorem Wt.Bd.sm {t : Wt} (h : t.Bd) (hm : t.m ≤ 16777217) : t.Sm := by
  obtain ⟨m, a1, a2, b1, b2, c1, c2⟩ := h
  unfold Wt.Sm
  omega
theorem wtS_bd {ps : List Pc} (hok : ∀ p ∈ ps, p.Ok) (i : Nat) (hi : i < ps.length) (l : List Nat) (hnd : l.Nodup) (hl : ∀ k ∈ l, k < ps.length) (ht : (totalS ps).m ≤ 16777216) : (wtS ps i l).Bd ∧ (wtS ps i l).m ≤ 16777217 := by
  have h1 := wtOf_bd hok l hl
  have h2 := wtOf_le hok l hnd hl
  unfold wtS
  split
  · have hp := getOk hok hi
    refine ⟨h1.add _ ⟨hp.x1, hp.x2, hp.y1, hp.y2, hp.z1, hp.z2, hp.l1, hp.l2, hp.w1, hp.w2, hp.h1, hp.h2, (by show (0 : Int) ≤ 1; decide), (by show (1 : Int) ≤ 16777216; decide)⟩, ?_⟩
    unfold Wt.add
    dsimp only
    omega
  · exact ⟨h1, by omega⟩

/-- The corners of the areas are places that a hull takes. -/
theorem bx_bd {p : Pc} (hp : p.Ok) : (-131072 ≤ p.box.x0 ∧ p.box.x0 ≤ 131072) ∧ (-131072 ≤ p.box.x1 ∧ p.box.x1 ≤ 131072) ∧ (-131072 ≤ p.box.y0 ∧ p.box.y0 ≤ 131072) ∧ (-131072 ≤ p.box.y1 ∧ p.box.y1 ≤ 131072) := by
  obtain ⟨x1, x2, y1, y2, z1, z2, l1, l2, w1, w2, h1, h2, m1, m2⟩ := hp
  unfold Pc.box
  dsimp only
  omega
theorem areas_bd {ps : List Pc} (hok : ∀ p ∈ ps, p.Ok) (i : Nat) (hi : i < ps.length) : ∀ q ∈ csOf (areasS ps i), (-131072 ≤ q.1 ∧ q.1 ≤ 131072) ∧ (-131072 ≤ q.2 ∧ q.2 ≤ 131072) := by
  intro q hq
  unfold csOf at hq
  obtain ⟨b, hb, hq⟩ := List.mem_flatMap.1 hq
  unfold areasS at hb
  obtain ⟨k, hk, rfl⟩ := List.mem_map.1 hb
  have hkl : k < ps.length := by
    unfold underS at hk
    exact List.mem_range.1 (List.mem_filter.1 hk).1
  have h1 := bx_bd (getOk hok hi)
  have h2 := bx_bd (getOk hok hkl)
  unfold Bx.cs cutS bxAt at hq
  simp only [List.mem_cons, List.not_mem_nil, or_false] at hq
  rcases hq with rfl | rfl | rfl | rfl <;> dsimp only <;> omega
theorem areas_hull {ps : List Pc} (hok : ∀ p ∈ ps, p.Ok) (i : Nat) (hi : i < ps.length) (hn : ps.length ≤ 40) (h0 : underS ps i ≠ []) : hullE (csOf (areasS ps i)) = 0 := by
  have hl : (csOf (areasS ps i)).length ≤ 160 := by
    rw [csOf_len]
    unfold areasS underS
    rw [List.length_map]
    have := List.length_filter_le (fun k => (bxAt ps i).rests (bxAt ps k)) (List.range ps.length)
    rw [List.length_range] at this
    omega
  unfold hullE
  rw [if_neg (by omega), if_pos, if_neg]
  · intro e
    have := congrArg List.length e
    rw [csOf_len] at this
    unfold areasS at this
    rw [List.length_map] at this
    have := List.length_pos_iff.2 h0
    simp at *
    omega
  · rw [List.all_eq_true]
    intro q hq
    have := areas_bd hok i hi q hq
    unfold ptOk
    exact decide_eq_true (by omega)
theorem stands_conOk {ps : List Pc} (hok : ∀ p ∈ ps, p.Ok) (i : Nat) (hi : i < ps.length) (l : List Nat) (hnd : l.Nodup) (hl : ∀ k ∈ l, k < ps.length) (ht : (totalS ps).m ≤ 16777216) :
    ConOk (cornersS (csOf (areasS ps i))) (wtS ps i l).a (wtS ps i l).b (2 * (wtS ps i l).m) := by
  obtain ⟨⟨m, a1, a2, b1, b2, _, _⟩, hm⟩ := wtS_bd hok i hi l hnd hl ht
  exact ⟨by omega, by omega, by omega, by omega, by omega, by omega, fun p hp => areas_bd hok i hi p (cornersS_sub _ p hp)⟩

end Go.Proofs.YtacmiobhnfeflaaGreat
