import Derived.Test.YtacmiobhnfeflaaGreatEdges
import Derived.Deep.RegionHeld3
import Derived.Deep.DeepCutAuto
namespace Go.Proofs.YtacmiobhnfeflaaGreat
open Go.RowKit Go.Sort Go.Shelf
attribute [local go_sem] Oper.semAt_some

/-- Is the point (x / d, y / d) not to the right of an edge? -/
def sideOk (x y d : Int) (e : Pt × Pt) : Bool := !decide ((e.2.1 - e.1.1) * (y - d * e.1.2) < (e.2.2 - e.1.2) * (x - d * e.1.1))
def lastP (h : List Pt) : Pt := h.getLast?.getD (0, 0)
def headP (h : List Pt) : Pt := h.head?.getD (0, 0)
/-- For one point, or two: the point has to be between them, too. -/
def betwS (h : List Pt) (x y d : Int) : Bool :=
  decide (d * min (headP h).1 (lastP h).1 ≤ x ∧ x ≤ d * max (headP h).1 (lastP h).1) && decide (d * min (headP h).2 (lastP h).2 ≤ y ∧ y ≤ d * max (headP h).2 (lastP h).2)
def containsS (h : List Pt) (x y d : Int) : Bool := (edgesS h).all (sideOk x y d) && (decide (2 < h.length) || betwS h x y d)

/-- The bounds within which nothing wraps. -/
structure ConOk (h : List Pt) (x y d : Int) : Prop where
  x1 : -8796093022208 ≤ x
  x2 : x ≤ 8796093022208
  y1 : -8796093022208 ≤ y
  y2 : y ≤ 8796093022208
  d1 : 0 ≤ d
  d2 : d ≤ 67108864
  pts : ∀ p ∈ h, (-131072 ≤ p.1 ∧ p.1 ≤ 131072) ∧ (-131072 ≤ p.2 ∧ p.2 ≤ 131072)

/-- An edge between points of a hull. -/
abbrev EdgeOf (h : List Pt) := { e : Pt × Pt // e.1 ∈ h ∧ e.2 ∈ h }
theorem edgesS_mem (h : List Pt) : ∀ e ∈ edgesS h, e.1 ∈ h ∧ e.2 ∈ h := by
  intro e he
  unfold edgesS at he
  split at he
  · obtain ⟨i, hi, rfl⟩ := List.mem_map.1 he
    have h1 := List.mem_range.1 hi
    have h2 : (i + 1) % h.length < h.length := Nat.mod_lt _ (by omega)
    dsimp only
    rw [getElem!_pos h i h1, getElem!_pos h _ h2]
    exact ⟨List.getElem_mem _, List.getElem_mem _⟩
  · cases he

theorem side_bd {x y d : Int} {a b : Pt} (hx : -8796093022208 ≤ x ∧ x ≤ 8796093022208) (hy : -8796093022208 ≤ y ∧ y ≤ 8796093022208) (hd : 0 ≤ d ∧ d ≤ 67108864)
    (ha : (-131072 ≤ a.1 ∧ a.1 ≤ 131072) ∧ (-131072 ≤ a.2 ∧ a.2 ≤ 131072)) (hb : (-131072 ≤ b.1 ∧ b.1 ≤ 131072) ∧ (-131072 ≤ b.2 ∧ b.2 ≤ 131072)) :
    ((-8796093022208 ≤ d * a.2 ∧ d * a.2 ≤ 8796093022208) ∧ (-8796093022208 ≤ d * a.1 ∧ d * a.1 ≤ 8796093022208)) ∧
    ((-4611686018427387904 ≤ (b.1 - a.1) * (y - d * a.2) ∧ (b.1 - a.1) * (y - d * a.2) ≤ 4611686018427387904) ∧ (-4611686018427387904 ≤ (b.2 - a.2) * (x - d * a.1) ∧ (b.2 - a.2) * (x - d * a.1) ≤ 4611686018427387904)) := by
  have h1 : -8796093022208 ≤ d * a.2 ∧ d * a.2 ≤ 8796093022208 := by
    have p1 : 0 ≤ d * (131072 - a.2) := Int.mul_nonneg hd.1 (by omega)
    have p2 : 0 ≤ d * (131072 + a.2) := Int.mul_nonneg hd.1 (by omega)
    rw [Int.mul_sub] at p1
    rw [Int.mul_add] at p2
    omega
  have h2 : -8796093022208 ≤ d * a.1 ∧ d * a.1 ≤ 8796093022208 := by
    have p1 : 0 ≤ d * (131072 - a.1) := Int.mul_nonneg hd.1 (by omega)
    have p2 : 0 ≤ d * (131072 + a.1) := Int.mul_nonneg hd.1 (by omega)
    rw [Int.mul_sub] at p1
    rw [Int.mul_add] at p2
    omega
  have bd : ∀ u v : Int, -262144 ≤ u → u ≤ 262144 → -17592186044416 ≤ v → v ≤ 17592186044416 → -4611686018427387904 ≤ u * v ∧ u * v ≤ 4611686018427387904 := by
    intro u v u1 u2 v1 v2
    have p1 : 0 ≤ (262144 - u) * (17592186044416 + v) := Int.mul_nonneg (by omega) (by omega)
    have p2 : 0 ≤ (262144 + u) * (17592186044416 - v) := Int.mul_nonneg (by omega) (by omega)
    have p3 : 0 ≤ (262144 - u) * (17592186044416 - v) := Int.mul_nonneg (by omega) (by omega)
    have p4 : 0 ≤ (262144 + u) * (17592186044416 + v) := Int.mul_nonneg (by omega) (by omega)
    simp only [Int.sub_mul, Int.mul_sub, Int.add_mul, Int.mul_add] at p1 p2 p3 p4
    constructor <;> omega
  exact ⟨⟨h1, h2⟩, bd _ _ (by omega) (by omega) (by omega) (by omega), bd _ _ (by omega) (by omega) (by omega) (by omega)⟩

/-- The four boxes of the function's own. -/
structure ConI (B : Nat) (x y d : Int) (r : Bool) (W : World) : Prop where
  bx : Boxed W B 2 (.int .i64 x)
  by_ : Boxed W (B + 1) 2 (.int .i64 y)
  bd : Boxed W (B + 1 + 1) 2 (.int .i64 d)
  br : Boxed W (B + 1 + 1 + 1) 4 (.bool r)
/-- None of the edges so far has the point to its right. -/
def AllOk {h : List Pt} (x y d : Int) (pre : List (EdgeOf h)) : Prop := ∀ e ∈ pre, sideOk x y d e.1 = true
theorem conI_own {β : Type} (B : Nat) (x y d : Int) (r : Bool) : Own (fun (_ : β) W => ConI B x y d r W) := fun s X Y row hs hg hr =>
  ⟨boxed_own B _ (fun _ : β => _) s X Y row hs.bx hg hr, boxed_own (B + 1) _ (fun _ : β => _) s X Y row hs.by_ hg hr, boxed_own (B + 1 + 1) _ (fun _ : β => _) s X Y row hs.bd hg hr, boxed_own (B + 1 + 1 + 1) _ (fun _ : β => _) s X Y row hs.br hg hr⟩
theorem ConI.alloc {B : Nat} {x y d : Int} {r : Bool} {W : World} (h : ConI B x y d r W) (o : Obj) : ConI B x y d r (W.alloc o) := ⟨h.bx.alloc o, h.by_.alloc o, h.bd.alloc o, h.br.alloc o⟩
theorem ConI.drew {B : Nat} {x y d : Int} {r : Bool} {W : World} (h : ConI B x y d r W) : ConI B x y d r W.drew := ⟨h.bx, h.by_, h.bd, h.br⟩
theorem mulD_bd {d m : Int} (h1 : 0 ≤ d) (h2 : d ≤ 67108864) (h3 : -131072 ≤ m) (h4 : m ≤ 131072) : RowKit.wrap64 (d * m) = d * m := by
  have p1 : 0 ≤ d * (131072 - m) := Int.mul_nonneg h1 (by omega)
  have p2 : 0 ≤ d * (131072 + m) := Int.mul_nonneg h1 (by omega)
  rw [Int.mul_sub] at p1
  rw [Int.mul_add] at p2
  exact IntWalk.wrap64_in _ (by omega)
theorem ConI.set {B : Nat} {x y d : Int} {r : Bool} {W : World} (h : ConI B x y d r W) (r' : Bool) : ConI B x y d r' (W.setCell ⟨B + 1 + 1 + 1, 0, none⟩ (.bool r')) :=
  ⟨h.bx.other (by omega) _, h.by_.other (by omega) _, h.bd.other (by omega) _, h.br.set _⟩

theorem two_boxes (W : World) (p q : Pt) :
    BoxP ((W.alloc (.cells #[.int .i64 p.1, .int .i64 p.2] 57)).alloc (.cells #[.int .i64 q.1, .int .i64 q.2] 57)).drew W.heap.size p ∧
    BoxP ((W.alloc (.cells #[.int .i64 p.1, .int .i64 p.2] 57)).alloc (.cells #[.int .i64 q.1, .int .i64 q.2] 57)).drew (W.heap.size + 1) q := by
  have h1 : BoxP ((W.alloc (.cells #[.int .i64 p.1, .int .i64 p.2] 57)).alloc (.cells #[.int .i64 q.1, .int .i64 q.2] 57)) W.heap.size p := (BoxP.new W p).kept (World.grownBy_alloc _ _ none) (by simp)
  refine ⟨h1, ?_⟩
  have := BoxP.new (W.alloc (.cells #[.int .i64 p.1, .int .i64 p.2] 57)) q
  rw [World.size_alloc] at this
  exact this

set_option maxRecDepth 100000 in
set_option maxHeartbeats 4000000 in
theorem contains_in (n : Nat) (hn : 6 ≤ n) (b off cap : Nat) (h : List Pt) (h0 : h ≠ []) (hl : h.length ≤ 1000000) (x y d : Int) (hok : ConOk h x y d) (w : World) (hP : PtsAt w w.heap.size (some ⟨b, off, none⟩) h) (hb : b < w.heap.size) :
    CallsIn Fence.wide n Tryz.prog 45 #[.slice (some ⟨b, off, none⟩) h.length cap, .int .i64 x, .int .i64 y, .int .i64 d] w fun e w' => e = .returned (.bool (containsS h x y d)) ∧ Below w.heap.size w w' := by
  have h1 : 1 ≤ n := by omega
  have hes : ((edgesS h).attachWith (fun e => e.1 ∈ h ∧ e.2 ∈ h) (edgesS_mem h)).map (·.1) = edgesS h := List.attachWith_map_subtype_val _
  generalize (edgesS h).attachWith (fun e => e.1 ∈ h ∧ e.2 ∈ h) (edgesS_mem h) = es at hes
  have HC : RowKit.Hid (containsS h x y d = (es.all (fun e => sideOk x y d e.1) && (decide (2 < h.length) || betwS h x y d))) := by
    show containsS h x y d = _
    unfold containsS
    rw [← hes, List.all_map]
    rfl
  refine callsIn_of_wp_marks Tryz.func45 rfl trivial ?_ rfl
  simp only [Tryz.ntmps45, List.size_toArray, List.length_cons, List.length_nil, Nat.reduceAdd, Nat.reduceSub, Array.replicate_succ, Array.replicate_zero, List.push_toArray, List.append_toArray, List.nil_append, List.cons_append]
  gi_wp2
  have hI0 : ConI w.heap.size x y d false ((((w.alloc (.cells #[.int .i64 x] 2)).alloc (.cells #[.int .i64 y] 2)).alloc (.cells #[.int .i64 d] 2)).alloc (.cells #[.bool false] 4)) := by
    refine ⟨(((Boxed.new w _ _).alloc _).alloc _).alloc _, ?_, ?_, ?_⟩
    · have := Boxed.new (w.alloc (.cells #[.int .i64 x] 2)) 2 (.int .i64 y)
      rw [World.size_alloc] at this
      exact (this.alloc _).alloc _
    · have := Boxed.new ((w.alloc (.cells #[.int .i64 x] 2)).alloc (.cells #[.int .i64 y] 2)) 2 (.int .i64 d)
      rw [World.size_alloc, World.size_alloc] at this
      exact this.alloc _
    · have := Boxed.new (((w.alloc (.cells #[.int .i64 x] 2)).alloc (.cells #[.int .i64 y] 2)).alloc (.cells #[.int .i64 d] 2)) 4 (.bool false)
      rw [World.size_alloc, World.size_alloc, World.size_alloc] at this
      exact this
  have hB0 : Below w.heap.size w ((((w.alloc (.cells #[.int .i64 x] 2)).alloc (.cells #[.int .i64 y] 2)).alloc (.cells #[.int .i64 d] 2)).alloc (.cells #[.bool false] 4)) :=
    ((((Below.refl _ w).alloc (Nat.le_refl _) _).alloc (by simp) _).alloc (by simp; omega) _).alloc (by simp; omega) _
  have hsz : ((((w.alloc (.cells #[.int .i64 x] 2)).alloc (.cells #[.int .i64 y] 2)).alloc (.cells #[.int .i64 d] 2)).alloc (.cells #[.bool false] 4)).heap.size = w.heap.size + 4 := by simp
  obtain ⟨W0, hW0⟩ : ∃ W0, ((((w.alloc (.cells #[.int .i64 x] 2)).alloc (.cells #[.int .i64 y] 2)).alloc (.cells #[.int .i64 d] 2)).alloc (.cells #[.bool false] 4)) = W0 := ⟨_, rfl⟩
  rw [hW0] at hI0 hB0 hsz ⊢
  clear hW0
  refine wpIn_rangeM (gf := 69) (recv := #[.slice (some ⟨b, off, none⟩) h.length cap]) rfl (enters_of Tryz.func69 (by kernel_rfl) rfl)
    (edges_stops (fun e : EdgeOf h => e.1) (n - 1) (by omega) b off w.heap.size cap h h0 hl es hes hb W0 (by omega) (hP.below hB0)) belowK_t (belowK_b (by omega)) (fun _ => rfl)
    (fun pre W => (ConI w.heap.size x y d false W ∧ AllOk x y d pre) ∧ Below w.heap.size w W)
    (fun c pre W => (ConI w.heap.size x y d false W ∧ RowKit.Hid (c = .ret ∧ ∃ e ∈ pre, sideOk x y d e.1 = false)) ∧ Below w.heap.size w W)
    (OwnFrom.and (OwnFrom.and (Own.from (conI_own _ _ _ _ _) _) (ownFrom_pure _ _)) (ownFrom_below (Nat.le_refl _) (by omega)))
    (fun c => OwnFrom.and (OwnFrom.and (Own.from (conI_own _ _ _ _ _) _) (ownFrom_pure _ _)) (ownFrom_below (Nat.le_refl _) (by omega)))
    ⟨⟨hI0, fun e he => by cases he⟩, hB0⟩
    (fun e a' W => ∃ Ba Bb, w.heap.size + 4 ≤ Ba ∧ w.heap.size + 4 ≤ Bb ∧ BoxP W Ba e.1.1 ∧ BoxP W Bb e.1.2 ∧ a' = { tmps := #[.slice (some ⟨b, off, none⟩) h.length cap, .int .i64 x, .int .i64 y, .int .i64 d, undef, .pointer (some ⟨w.heap.size, 0, none⟩), .pointer (some ⟨w.heap.size + 1, 0, none⟩), .pointer (some ⟨w.heap.size + 1 + 1, 0, none⟩), .pointer (some ⟨w.heap.size + 1 + 1 + 1, 0, none⟩), .pointer (some ⟨Ba, 0, none⟩), .pointer (some ⟨Bb, 0, none⟩), undef, undef, .slice (some ⟨b, off, none⟩) h.length cap, .func (.func 69) #[.slice (some ⟨b, off, none⟩) h.length cap] #[], .agg #[.int .i64 e.1.1.1, .int .i64 e.1.1.2], .agg #[.int .i64 e.1.2.1, .int .i64 e.1.2.2], undef, undef, undef, undef, undef, undef, undef, undef, undef, undef, undef, undef, undef, undef, undef, undef, undef, undef, undef, undef, undef, undef, undef, undef, undef, undef, undef, undef, undef, undef, undef, undef, undef, undef, undef, undef, undef, undef, undef, undef, undef, undef, undef, undef, undef, undef, undef, undef, undef, undef, undef, undef, undef, undef, undef, undef, undef, undef, undef, undef, undef, undef, undef, undef, undef, undef, undef, undef, undef, undef, undef], defers := [] })
    (fun x a' _ X Y row hs hg hr => by obtain ⟨Ba, Bb, h1, h2, h3, h4, h5⟩ := hs; exact ⟨Ba, Bb, h1, h2, boxP_own Ba _ () X Y row h3 hg (fun r e => (hr r e).2), boxP_own Bb _ () X Y row h4 hg (fun r e => (hr r e).2), h5⟩)
    ?assign ?body ?done ?stop
  case assign =>
    rintro l pre e W K ⟨⟨hI1, hp1⟩, hB1⟩ hK
    have hge : w.heap.size + 4 ≤ W.heap.size := hI1.br.lt
    gi_wp2
    have hn1 := BoxP.new W e.1.1
    have hn2 := BoxP.new (W.alloc (.cells #[.int .i64 e.1.1.1, .int .i64 e.1.1.2] 57)) e.1.2
    rw [World.size_alloc] at hn2
    refine hK _ _ (((KeepsOthers.alloc _ _).trans (KeepsOthers.alloc _ _)).from _) (((Below.refl _ W).alloc (by omega) _).alloc (by simp; omega) _) ⟨⟨(hI1.alloc _).alloc _, hp1⟩, (hB1.alloc (by omega) _).alloc (by simp; omega) _⟩ ⟨W.heap.size, W.heap.size + 1, hge, by omega, hn1.kept (World.grownBy_alloc _ _ none) (by simp), hn2, rfl⟩
  case body =>
    rintro l pre e a' W ⟨⟨hI1, hp1⟩, hB1⟩ ⟨Ba, Bb, hBa, hBb, bA, bB, rfl⟩ hlt
    have cx := hI1.bx.cell
    have cy := hI1.by_.cell
    have cd := hI1.bd.cell
    have cr := hI1.br.cell
    have fr := hI1.br.frozen
    have a0 := bA.x
    have a1 := bA.y
    have b0 := bB.x
    have b1 := bB.y
    have hpa := hok.pts _ e.2.1
    have hpb := hok.pts _ e.2.2
    obtain ⟨⟨⟨m1, m2⟩, m3, m4⟩, ⟨m5, m6⟩, m7, m8⟩ := side_bd ⟨hok.x1, hok.x2⟩ ⟨hok.y1, hok.y2⟩ ⟨hok.d1, hok.d2⟩ hpa hpb
    obtain ⟨⟨a2, a3⟩, a4, a5⟩ := hpa
    obtain ⟨⟨b2, b3⟩, b4, b5⟩ := hpb
    have x1 := hok.x1
    have x2 := hok.x2
    have y1 := hok.y1
    have y2 := hok.y2
    have HI := Lib.hid hI1
    have HE : RowKit.Hid (sideOk x y d e.1 = !decide ((e.1.2.1 - e.1.1.1) * (y - d * e.1.1.2) < (e.1.2.2 - e.1.1.2) * (x - d * e.1.1.1))) := rfl
    by_cases hs : (e.1.2.1 - e.1.1.1) * (y - d * e.1.1.2) < (e.1.2.2 - e.1.1.2) * (x - d * e.1.1.1)
    · have HS : RowKit.Hid (sideOk x y d e.1 = false) := by show sideOk x y d e.1 = false; rw [HE.out, decide_eq_true hs]; rfl
      gi_wp2
      refine ⟨(KeepsOthers.setCell _ _ _).from _, ⟨HI.out.set false, rfl, e, List.mem_append.2 (.inr (by simp)), HS.out⟩, hB1.setCell (p := ⟨w.heap.size + 1 + 1 + 1, 0, none⟩) (by simp; omega) _⟩
    · have HS : RowKit.Hid (sideOk x y d e.1 = true) := by show sideOk x y d e.1 = true; rw [HE.out, decide_eq_false hs]; rfl
      gi_wp2
      refine ⟨KeepsFrom.refl _ _, Below.refl _ _, ⟨HI.out, ?_⟩, hB1⟩
      intro q hq
      rcases List.mem_append.1 hq with hq | hq
      · exact hp1 q hq
      · rw [List.mem_singleton.1 hq]
        exact HS.out
  case done =>
    rename_i hKK
    rintro D zs W hD rfl ⟨⟨hI1, hp1⟩, hB1⟩ hK
    have hall : RowKit.Hid (containsS h x y d = (decide (2 < h.length) || betwS h x y d)) := by
      show containsS h x y d = _
      rw [HC.out, List.all_eq_true.2 hp1, Bool.true_and]
    have cr := hI1.br.cell
    have fr := hI1.br.frozen
    by_cases h2 : 2 < h.length
    · have h2i : (2 : Int) < (h.length : Int) := by omega
      have HV : RowKit.Hid (containsS h x y d = true) := by show containsS h x y d = true; rw [hall.out, decide_eq_true h2]; rfl
      have hI2 := Lib.hid (hI1.set true)
      gi_wp2
      have hK' := (KeepsOthers.setCell W ⟨w.heap.size + 1 + 1 + 1, 0, none⟩ (.bool true)).same D _ hK rfl
      refine ⟨by simp, .inl ⟨_, _, rfl, run_takeDeferred hK', ?_⟩⟩
      have hc5 := cell_kept hI2.out.br.cell (grownBy_putObj' _ D (.deferred none)) (fun r e => by cases e; exact ⟨_, hK', rfl⟩)
      refine ⟨.bool true, ?_, by rw [HV.out], (hB1.setCell (p := ⟨w.heap.size + 1 + 1 + 1, 0, none⟩) (by simp; omega) _).trans (belowK_b (w := w) (Nat.le_refl _) _ D _ _ (by omega) hK' rfl rfl)⟩
      simp [results, Tryz.f45, go_sem, hc5]
    · have h2i : ¬ (2 : Int) < (h.length : Int) := by omega
      have HV : RowKit.Hid (containsS h x y d = betwS h x y d) := by show containsS h x y d = _; rw [hall.out, decide_eq_false h2]; rfl
      have hpos := List.length_pos_iff.2 h0
      have hp0 : h[0]? = some (headP h) := by
        unfold headP
        rw [List.head?_eq_getElem?, List.getElem?_eq_getElem hpos]
        rfl
      have hpl : h[h.length - 1]? = some (lastP h) := by
        unfold lastP
        rw [List.getLast?_eq_getElem?, List.getElem?_eq_getElem (by omega)]
        rfl
      have hPW := hP.below hB1
      obtain ⟨b', off', hA, _, c0, c1⟩ := hPW 0 _ hp0
      injection hA with e1
      injection e1 with e1 e2
      subst e1; subst e2
      obtain ⟨b', off', hA, _, c2, c3⟩ := hPW _ _ hpl
      injection hA with e1
      injection e1 with e1 e2
      subst e1; subst e2
      simp only [Nat.zero_mul, Nat.add_zero] at c0 c1
      have hbd0 := hok.pts _ (List.mem_of_getElem? hp0)
      have hbdl := hok.pts _ (List.mem_of_getElem? hpl)
      have HBW : RowKit.Hid (betwS h x y d = (decide (d * min (headP h).1 (lastP h).1 ≤ x ∧ x ≤ d * max (headP h).1 (lastP h).1) && decide (d * min (headP h).2 (lastP h).2 ≤ y ∧ y ≤ d * max (headP h).2 (lastP h).2))) := rfl
      clear hp0 hpl hPW
      generalize headP h = p0 at *
      generalize lastP h = pl at *
      have hblt : b < W.heap.size := Nat.lt_of_lt_of_le hb hB1.size
      obtain ⟨L, hL⟩ : ∃ L, h.length = L + 1 := ⟨h.length - 1, by omega⟩
      rw [hL] at h2i hl c2 c3 ⊢
      rw [Nat.add_sub_cancel] at c2 c3
      have hw1 : IntKind.i64.wrap (L : Int) = (L : Int) := IntWalk.i64_in _ (by omega)
      have f1 : (0 : Int) ≤ (L : Int) := by omega
      have f2 : (L : Int) < (L : Int) + 1 := by omega
      refine hKK _ _ (wpIn_wide.2 ?_)
      dsimp only
      go_upto_region 1 with (fail)
      go_cut [11, 12] from 45 to 53 (fun s1 s2 wx => ∃ b1 b2 : Nat, s1 = .pointer (some ⟨b1, 0, none⟩) ∧ s2 = .pointer (some ⟨b2, 0, none⟩) ∧ BoxP wx b1 p0 ∧ BoxP wx b2 pl ∧ ConI w.heap.size x y d false wx ∧ wx.heap[D]? = some (.deferred (some [])) ∧ Below w.heap.size w wx)
      case first =>
        go_region_held3 (fun w' => w'.cell? ⟨b, off, none⟩ = some (.int .i64 p0.1) ∧ w'.cell? ⟨b, off + 1, none⟩ = some (.int .i64 p0.2) ∧ w'.cell? ⟨b, off + L * 2, none⟩ = some (.int .i64 pl.1) ∧ w'.cell? ⟨b, off + L * 2 + 1, none⟩ = some (.int .i64 pl.2)) (go_keep) (fail)
        all_goals
          go_wp2_with fail
          go_meet
          refine ⟨_, _, rfl, rfl, by first | exact (two_boxes W p0 pl).1 | exact (two_boxes W pl p0).2, by first | exact (two_boxes W p0 pl).2 | exact (two_boxes W pl p0).1, ((hI1.alloc _).alloc _).drew, ?_, below_drewN ((hB1.alloc hB1.size _).alloc (by have := hB1.size; simp; omega) _) 1⟩
          refine (Below.heap_alloc _ _ D ?_).trans ((Below.heap_alloc W _ D (Array.getElem?_eq_some_iff.1 hK).1).trans hK)
          rw [World.size_alloc]
          have := (Array.getElem?_eq_some_iff.1 hK).1
          omega
      case rest =>
        obtain ⟨b1, b2, rfl, rfl, hA1, hA2, hI2, hK2, hB2⟩ := hcut
        have cx := hI2.bx.cell
        have cy := hI2.by_.cell
        have cd := hI2.bd.cell
        have cr := hI2.br.cell
        have fr := hI2.br.frozen
        have a0 := hA1.x
        have a1 := hA1.y
        have b0 := hA2.x
        have b1' := hA2.y
        have q1 := mulD_bd (m := min p0.1 pl.1) hok.d1 hok.d2 (by omega) (by omega)
        have q2 := mulD_bd (m := max p0.1 pl.1) hok.d1 hok.d2 (by omega) (by omega)
        have q3 := mulD_bd (m := min p0.2 pl.2) hok.d1 hok.d2 (by omega) (by omega)
        have q4 := mulD_bd (m := max p0.2 pl.2) hok.d1 hok.d2 (by omega) (by omega)
        have HI2 := Lib.hid hI2
        by_cases k1 : d * min p0.1 pl.1 ≤ x ∧ x ≤ d * max p0.1 pl.1
        · by_cases k2 : d * min p0.2 pl.2 ≤ y ∧ y ≤ d * max p0.2 pl.2
          · have HF : RowKit.Hid (containsS h x y d = true) := by show containsS h x y d = true; rw [HV.out, HBW.out, decide_eq_true k1, decide_eq_true k2]; rfl
            have K1 := Lib.hid k1
            have K2 := Lib.hid k2
            clear k1 k2
            go_wp2_with fail
            (with_reducible refine (between_yes _ _ _ K1.out _).mono ?_)
            rintro e w2 ⟨rfl, rfl⟩
            go_wp2_with fail
            (with_reducible refine (between_yes _ _ _ K2.out _).mono ?_)
            rintro e w2 ⟨rfl, rfl⟩
            go_wp2_with fail
            have hI3 := HI2.out.set true
            have hK' := (KeepsOthers.setCell wc ⟨w.heap.size + 1 + 1 + 1, 0, none⟩ (.bool true)).same D _ hK2 rfl
            refine ⟨by simp, .inl ⟨_, _, rfl, run_takeDeferred hK', ?_⟩⟩
            have hc5 := cell_kept hI3.br.cell (grownBy_putObj' _ D (.deferred none)) (fun r e => by cases e; exact ⟨_, hK', rfl⟩)
            refine ⟨.bool true, ?_, by rw [HF.out], (hB2.setCell (p := ⟨w.heap.size + 1 + 1 + 1, 0, none⟩) (by simp; omega) _).trans (belowK_b (w := w) (Nat.le_refl _) _ D _ _ (by omega) hK' rfl rfl)⟩
            simp [results, Tryz.f45, go_sem, hc5]
          · have HF : RowKit.Hid (containsS h x y d = false) := by show containsS h x y d = false; rw [HV.out, HBW.out, decide_eq_true k1, decide_eq_false k2]; rfl
            have K1 := Lib.hid k1
            have K2 := Lib.hid k2
            clear k1 k2
            go_wp2_with fail
            (with_reducible refine (between_yes _ _ _ K1.out _).mono ?_)
            rintro e w2 ⟨rfl, rfl⟩
            go_wp2_with fail
            (with_reducible refine (between_no _ _ _ K2.out _).mono ?_)
            rintro e w2 ⟨rfl, rfl⟩
            go_wp2_with fail
            have hI3 := HI2.out.set false
            have hK' := (KeepsOthers.setCell wc ⟨w.heap.size + 1 + 1 + 1, 0, none⟩ (.bool false)).same D _ hK2 rfl
            refine ⟨by simp, .inl ⟨_, _, rfl, run_takeDeferred hK', ?_⟩⟩
            have hc5 := cell_kept hI3.br.cell (grownBy_putObj' _ D (.deferred none)) (fun r e => by cases e; exact ⟨_, hK', rfl⟩)
            refine ⟨.bool false, ?_, by rw [HF.out], (hB2.setCell (p := ⟨w.heap.size + 1 + 1 + 1, 0, none⟩) (by simp; omega) _).trans (belowK_b (w := w) (Nat.le_refl _) _ D _ _ (by omega) hK' rfl rfl)⟩
            simp [results, Tryz.f45, go_sem, hc5]
        · have HF : RowKit.Hid (containsS h x y d = false) := by show containsS h x y d = false; rw [HV.out, HBW.out, decide_eq_false k1]; rfl
          have K1 := Lib.hid k1
          clear k1
          go_wp2_with fail
          (with_reducible refine (between_no _ _ _ K1.out _).mono ?_)
          rintro e w2 ⟨rfl, rfl⟩
          go_wp2_with fail
          have hI3 := HI2.out.set false
          have hK' := (KeepsOthers.setCell wc ⟨w.heap.size + 1 + 1 + 1, 0, none⟩ (.bool false)).same D _ hK2 rfl
          refine ⟨by simp, .inl ⟨_, _, rfl, run_takeDeferred hK', ?_⟩⟩
          have hc5 := cell_kept hI3.br.cell (grownBy_putObj' _ D (.deferred none)) (fun r e => by cases e; exact ⟨_, hK', rfl⟩)
          refine ⟨.bool false, ?_, by rw [HF.out], (hB2.setCell (p := ⟨w.heap.size + 1 + 1 + 1, 0, none⟩) (by simp; omega) _).trans (belowK_b (w := w) (Nat.le_refl _) _ D _ _ (by omega) hK' rfl rfl)⟩
          simp [results, Tryz.f45, go_sem, hc5]
  case stop =>
    rintro D c pre W hD hpre ⟨⟨hI1, hp1⟩, hB1⟩ hK
    obtain ⟨rfl, e, he, hs⟩ := hp1.out
    have cR := hI1.br.cell
    gi_wp2
    refine ⟨by simp, .inl ⟨_, _, rfl, run_takeDeferred hK, ?_⟩⟩
    have hc5 := cell_kept cR (grownBy_putObj' _ D (.deferred none)) (fun r e => by cases e; exact ⟨_, hK, rfl⟩)
    have hv : containsS h x y d = false := by
      rw [HC.out, Bool.and_eq_false_iff]
      left
      rw [List.all_eq_false]
      exact ⟨e, hpre.subset he, by rw [hs]; simp⟩
    refine ⟨.bool false, ?_, by rw [hv], hB1.trans (belowK_b (w := w) (Nat.le_refl _) W D _ _ (by omega) hK rfl rfl)⟩
    simp [results, Tryz.f45, go_sem, hc5]

theorem contains_any (b off cap : Nat) (h : List Pt) (h0 : h ≠ []) (hl : h.length ≤ 1000000) (x y d : Int) (hok : ConOk h x y d) (w : World) (hP : PtsAt w w.heap.size (some ⟨b, off, none⟩) h) (hb : b < w.heap.size) :
    Calls Tryz.prog 45 #[.slice (some ⟨b, off, none⟩) h.length cap, .int .i64 x, .int .i64 y, .int .i64 d] w fun e w' => e = .returned (.bool (containsS h x y d)) ∧ Below w.heap.size w w' :=
  callsIn_wide.1 (contains_in 6 (Nat.le_refl _) b off cap h h0 hl x y d hok w hP hb)

end Go.Proofs.YtacmiobhnfeflaaGreat
