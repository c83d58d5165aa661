import Derived.Test.YtacmiobhnfeflaaGreatAppSeq
namespace Go.Proofs.YtacmiobhnfeflaaGreat
open Go.RowKit Go.Sort Go.Shelf

/-- A box's six cells. -/
def encB (b : Bx) : List Value := [.int .i64 b.x0, .int .i64 b.y0, .int .i64 b.z0, .int .i64 b.x1, .int .i64 b.y1, .int .i64 b.z1]
/-- The boxes bs lie at A, in a block below B. -/
def BxsAt (w : World) (B : Nat) (A : Option Addr) (bs : List Bx) : Prop :=
  ∀ (i : Nat) (x : Bx), bs[i]? = some x → ∃ b off, A = some ⟨b, off, none⟩ ∧ b < B ∧
    w.cell? ⟨b, off + i * 6, none⟩ = some (.int .i64 x.x0) ∧ w.cell? ⟨b, off + i * 6 + 1, none⟩ = some (.int .i64 x.y0) ∧ w.cell? ⟨b, off + i * 6 + 2, none⟩ = some (.int .i64 x.z0) ∧
    w.cell? ⟨b, off + i * 6 + 3, none⟩ = some (.int .i64 x.x1) ∧ w.cell? ⟨b, off + i * 6 + 4, none⟩ = some (.int .i64 x.y1) ∧ w.cell? ⟨b, off + i * 6 + 5, none⟩ = some (.int .i64 x.z1)
theorem BxsAt.below {w w' : World} {B : Nat} {A : Option Addr} {bs : List Bx} (h : BxsAt w B A bs) (hb : Below B w w') : BxsAt w' B A bs := by
  intro i x hx
  obtain ⟨b, off, hA, hlt, c0, c1, c2, c3, c4, c5⟩ := h i x hx
  have k : ∀ o, w'.cell? ⟨b, o, none⟩ = w.cell? ⟨b, o, none⟩ := fun o => hb.cell (p := ⟨b, o, none⟩) hlt
  exact ⟨b, off, hA, hlt, (k _).trans c0, (k _).trans c1, (k _).trans c2, (k _).trans c3, (k _).trans c4, (k _).trans c5⟩
/-- The corners of boxes, one behind the other. -/
def csOf (bs : List Bx) : List Pt := bs.flatMap Bx.cs
theorem csOf_snoc (bs : List Bx) (b : Bx) : csOf (bs ++ [b]) = csOf bs ++ b.cs := by simp [csOf]
theorem csOf_len (bs : List Bx) : (csOf bs).length = bs.length * 4 := by
  induction bs with
  | nil => rfl
  | cons b bs ih => simp [csOf, Bx.cs] at *; omega

set_option maxRecDepth 100000 in
set_option maxHeartbeats 2000000 in
theorem outline_any (A : Option Addr) (cap : Nat) (bs : List Bx) (hn : bs.length ≤ 100000) (w : World) (hbs : BxsAt w w.heap.size A bs) :
    Calls Tryz.prog 50 #[.slice A bs.length cap] w (HullPost (csOf bs) w) := by
  go_enter Tryz.func50, Tryz.ntmps50
  go_wp2_with fail
  go_loopg [4, 9] (bs.length) (fun m v c wr => ∃ k, RowKit.Hid (k + m = bs.length) ∧ c = .int .i64 (k : Nat) ∧ wr.ownsRow w.heap.size 57 2 v (csOf (bs.take k)).length (flat (csOf (bs.take k))) ∧ Below w.heap.size w wr)
  case atStart => exact ⟨0, by show 0 + bs.length = bs.length; omega, rfl, World.ownsRow_nil _ _ _ _, Below.refl _ _⟩
  case round =>
    obtain ⟨k, HK, rfl, hown, hB⟩ := hrel
    by_cases hlt : k < bs.length
    · obtain ⟨x, hx⟩ : ∃ x, bs[k]? = some x := ⟨_, List.getElem?_eq_getElem hlt⟩
      obtain ⟨b, off, hA, hb, c0, c1, c2, c3, c4, c5⟩ := (hbs.below hB) k x hx
      subst hA
      have HX := Lib.hid hx
      clear hx
      have hl4 : (csOf (bs.take k)).length ≤ 1000000 := by rw [csOf_len, List.length_take]; omega
      have hB1 := hB.alloc hB.size (.cells #[.int .i64 x.x0, .int .i64 x.y0, .int .i64 x.z0, .int .i64 x.x1, .int .i64 x.y1, .int .i64 x.z1] 66)
      have ho1 := hown.alloc (.cells #[.int .i64 x.x0, .int .i64 x.y0, .int .i64 x.z0, .int .i64 x.x1, .int .i64 x.y1, .int .i64 x.z1] 66)
      go_wp2_with fail
      (with_reducible refine (boxC_any x _).mono ?_)
      rintro e w2 ⟨rfl, hX2, hb2⟩
      have hB2 := hB1.trans (hb2.mono hB1.size)
      rw [World.size_alloc] at hX2
      have ho2 := own_below ho1 hb2
      clear hB1 ho1
      go_wp2_with fail
      (with_reducible refine (appSeq_any w.heap.size _ x _ _ hl4 w2 hB2.size ho2 hX2).mono ?_)
      rintro e w3 ⟨v', rfl, ho3, hb3⟩
      have hB3 := hB2.trans hb3
      go_wp2_with fail
      go_roundg (gk - 1)
      case measure => have := HK.out; omega
      case rel =>
        refine ⟨k + 1, by show k + 1 + (gk - 1) = bs.length; have := HK.out; omega, by go_num, ?_, hB3⟩
        rw [← take_succ_get HX.out, csOf_snoc]
        exact ho3
    · obtain rfl : k = bs.length := by have := HK.out; omega
      clear HK
      rw [List.take_length] at hown
      have hform : ∃ A1 cap1, u4 = .slice A1 (csOf bs).length cap1 ∧ PtsAt wr wr.heap.size A1 (csOf bs) := by
        rcases hown.2 with ⟨rfl, h0⟩ | ⟨g, cap, cur, rfl, _⟩
        · have e : csOf bs = [] := List.eq_nil_of_length_eq_zero h0
          exact ⟨none, 0, by rw [h0], by rw [e]; exact PtsAt.nil _ _ _⟩
        · exact ⟨_, _, rfl, PtsAt.of_own hown⟩
      obtain ⟨A1, cap1, rfl, hP⟩ := hform
      go_wp2_with fail
      (with_reducible refine (hull_any A1 cap1 _ _ hP).mono ?_)
      rintro e w2 ⟨v, rfl, hb2, hv1, hv2⟩
      go_wp2_with fail
      refine bodyPost_ret (v := .tuple #[v, .int .i64 (hullE (csOf bs))]) (by simp [results, Tryz.results50, go_sem]) rfl ?_
      refine ⟨_, rfl, hB.trans (hb2.mono hB.size), hv1, fun h => ?_⟩
      obtain ⟨g, cap, e, hO⟩ := hv2 h
      exact ⟨g, cap, e, hO.more (Nat.le_trans hB.size hO.ge)⟩

end Go.Proofs.YtacmiobhnfeflaaGreat
