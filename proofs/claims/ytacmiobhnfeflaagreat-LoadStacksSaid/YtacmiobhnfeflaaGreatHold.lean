import Derived.Test.YtacmiobhnfeflaaGreatProves
import Derived.Test.YtacmiobhnfeflaaGreatReach
namespace Go.Proofs.YtacmiobhnfeflaaGreat
open Go.RowKit Go.Sort Go.Shelf

abbrev DPt := { p : Pt // DirSm p }
instance : Inhabited DPt := ⟨⟨(0, 0), ⟨by decide, by decide, by decide, by decide⟩⟩⟩
theorem norms_sm {h : List Pt} (hp : ∀ p ∈ h, (-131072 ≤ p.1 ∧ p.1 ≤ 131072) ∧ (-131072 ≤ p.2 ∧ p.2 ≤ 131072)) : ∀ n ∈ normsS h, DirSm n := by
  intro n hn
  unfold normsS at hn
  obtain ⟨e, he, rfl⟩ := List.mem_map.1 hn
  obtain ⟨h1, h2⟩ := edgesS_mem h e he
  have a1 := hp _ h1
  have a2 := hp _ h2
  unfold normP
  constructor <;> dsimp only <;> omega

/-- What lies behind 'h, p := r.reach(..), need(..)'. -/
def HeldAt (w2 : World) (H : List Pt) (P : Pt) (s1 s2 : Value) (W : World) : Prop :=
  ∃ Bh Bp g cap, s1 = .pointer (some ⟨Bh, 0, none⟩) ∧ s2 = .pointer (some ⟨Bp, 0, none⟩) ∧ Blk W Bh 78 #[.slice (some ⟨g, 0, none⟩) H.length cap] ∧ Blk W Bp 57 #[.int .i64 P.1, .int .i64 P.2] ∧
    OwnP W w2.heap.size g cap H ∧ Below w2.heap.size w2 W
theorem blk_new1 {w : World} {b : Nat} {t : TypeId} {cs : Array Value} (h : b = w.heap.size) : Blk (w.alloc (.cells cs t)) b t cs := by subst h; exact Blk.new _ _ _
theorem blk_set1 {W : World} {b : Nat} {t : TypeId} {v : Value} (h : Blk W b t #[.slice none 0 0]) : Blk (W.setCell ⟨b, 0, none⟩ v) b t #[v] := by simpa using h.set_ 0 v
theorem blk_set2 {W : World} {b : Nat} {t : TypeId} {u v : Value} (h : Blk W b t #[.int .i64 0, .int .i64 0]) : Blk ((W.setCell ⟨b, 0, none⟩ u).setCell ⟨b, 1, none⟩ v) b t #[u, v] := by simpa using (h.set_ 0 u).set_ 1 v
theorem ownP_set {W : World} {base g cap : Nat} {ps : List Pt} (h : OwnP W base g cap ps) {k o : Nat} (hne : g ≠ k) (v : Value) : OwnP (W.setCell ⟨k, o, none⟩ v) base g cap ps := h.of_block (Below.heap_setCell _ _ _ _ hne)
theorem setSize (W : World) (p : Addr) (v : Value) : (W.setCell p v).heap.size = W.heap.size := by simp [World.setCell]

/-- What the loads of that statement read. -/
def HoldS (w2 : World) (b g : Nat) (x y z m : Int) (w' : World) : Prop :=
  Below w2.heap.size w2 w' ∧ w2.heap.size ≤ w'.heap.size ∧ b < w'.heap.size ∧ g < w'.heap.size ∧ w'.cell? ⟨b, 0, none⟩ = some (.int .i64 x) ∧ w'.cell? ⟨b, 1, none⟩ = some (.int .i64 y) ∧ w'.cell? ⟨b, 2, none⟩ = some (.int .i64 z) ∧ w'.cell? ⟨g, 4, none⟩ = some (.int .i64 m)
theorem HoldS.keep {w2 W W' : World} {b g : Nat} {x y z m : Int} (h : HoldS w2 b g x y z m W) (hb : b < w2.heap.size) (hg : g < w2.heap.size) (hB : Below w2.heap.size W W') : HoldS w2 b g x y z m W' := by
  obtain ⟨h1, h2, h3, h4, c0, c1, c2, c4⟩ := h
  have := hB.size
  exact ⟨h1.trans hB, by omega, by omega, by omega, (hB.cell (p := ⟨b, 0, none⟩) hb).trans c0, (hB.cell (p := ⟨b, 1, none⟩) hb).trans c1, (hB.cell (p := ⟨b, 2, none⟩) hb).trans c2, (hB.cell (p := ⟨g, 4, none⟩) hg).trans c4⟩
theorem below_lt {W W' : World} (h : Below W.heap.size W W') : ∀ k, k < W.heap.size → k < W'.heap.size := fun _ hk => Nat.lt_of_lt_of_le hk h.size
theorem keepC {w2 W W' : World} {b g : Nat} {x y z m : Int} (hbq : Below W.heap.size W W') (h : HoldS w2 b g x y z m W) (hb : b < w2.heap.size) (hg : g < w2.heap.size) : HoldS w2 b g x y z m W' :=
  h.keep hb hg (hbq.mono h.2.1)
theorem keepA {w2 W : World} {b g : Nat} {x y z m : Int} (h : HoldS w2 b g x y z m W) (hb : b < w2.heap.size) (hg : g < w2.heap.size) (o : Obj) : HoldS w2 b g x y z m (W.alloc o) :=
  h.keep hb hg ((Below.refl _ _).alloc h.2.1 _)
theorem HoldS.below {w2 W : World} {b g : Nat} {x y z m : Int} (h : HoldS w2 b g x y z m W) : Below w2.heap.size w2 W := h.1
theorem keepD {w2 W : World} {b g : Nat} {x y z m : Int} (h : HoldS w2 b g x y z m W) : HoldS w2 b g x y z m W.drew := ⟨below_drewN h.1 1, h.2⟩
theorem keepW {w2 W : World} {b g : Nat} {x y z m : Int} (h : HoldS w2 b g x y z m W) (hb : b < w2.heap.size) (hg : g < w2.heap.size) (k : Nat) (hk : w2.heap.size ≤ k) (v : Value) : HoldS w2 b g x y z m (W.setCell ⟨k, 0, none⟩ v) :=
  h.keep hb hg ((Below.refl _ _).setCell (p := ⟨k, 0, none⟩) hk _)
theorem keepW2 {w2 W : World} {b g : Nat} {x y z m : Int} (h : HoldS w2 b g x y z m W) (hb : b < w2.heap.size) (hg : g < w2.heap.size) (k : Nat) (hk : w2.heap.size ≤ k) (u v : Value) : HoldS w2 b g x y z m ((W.setCell ⟨k, 0, none⟩ u).setCell ⟨k, 1, none⟩ v) :=
  (keepW h hb hg k hk u).keep hb hg ((Below.refl _ _).setCell (p := ⟨k, 1, none⟩) hk _)

/-- What Hold leaves: OK, or a direction that proves that the load slips. -/
def HoldPost (H : List Pt) (P q : Pt) (w : World) (e : Ending) (w' : World) : Prop :=
  ((containsS H P.1 P.2 1 = true ∧ e = .returned (.tuple #[.agg #[.int .i64 0, .int .i64 0], .int .i64 0])) ∨ (containsS H P.1 P.2 1 = false ∧ e = .returned (.tuple #[.agg #[.int .i64 q.1, .int .i64 q.2], .int .i64 20]))) ∧ Below w.heap.size w w'

set_option maxRecDepth 100000 in
set_option maxHeartbeats 4000000 in
theorem hold_any (A E : Option Addr) (cap cap' : Nat) (L : Ld) (hOk : L.Ok) (s : Shk) (hs : s.Ok) (hcon : ConOk (reachS L s) (needS (totalS L.ps).m s).1 (needS (totalS L.ps).m s).2 1) (hlen : 3 ≤ (reachS L s).length ∧ (reachS L s).length ≤ 100)
    (q : Pt) (hPs : PtSm (needS (totalS L.ps).m s)) (hq : containsS (reachS L s) (needS (totalS L.ps).m s).1 (needS (totalS L.ps).m s).2 1 = false → ∃ k : Nat, (normsS (reachS L s))[k]? = some q ∧ provesS (reachS L s) (needS (totalS L.ps).m s) q = true ∧ ∀ (j : Nat) (x : Pt), j < k → (normsS (reachS L s))[j]? = some x → provesS (reachS L s) (needS (totalS L.ps).m s) x = false) (w : World) (hL : LdAt w w.heap.size A E L) :
    Calls Tryz.prog 26 #[.agg #[.string L.name, .slice A L.ps.length cap, .slice E L.es.length cap', .int .i64 L.fr], .slice none 0 0, .agg #[.int .i64 s.x, .int .i64 s.y, .int .i64 s.z]] w fun e w' =>
      HoldPost (reachS L s) (needS (totalS L.ps).m s) q w e w' := by
  have HCON := Lib.hid hcon
  have HQ := Lib.hid hq
  have HPS := Lib.hid hPs
  obtain ⟨hlen1, hlen2⟩ := hlen
  clear hcon hq hPs
  have HOK := Lib.hid hOk
  have HS := Lib.hid hs
  have hsum := hOk.sum
  have HP : RowKit.Hid (0 ≤ (totalS L.ps).m ∧ (totalS L.ps).m ≤ 16777216) := ⟨by omega, hsum.2⟩
  clear hOk hs hsum
  go_enter Tryz.func26, Tryz.ntmps26
  go_wp2_with fail
  have hB0 : Below w.heap.size w (((w.alloc (Obj.cells #[Value.string L.name, Value.slice A L.ps.length cap, Value.slice E L.es.length cap', Value.int .i64 L.fr] 25)).alloc (Obj.cells #[.int .i64 s.x, .int .i64 s.y, .int .i64 s.z] 61)).alloc (Obj.cells #[.int .i64 0, .int .i64 0] 57)) := (((Below.refl _ _).alloc (Nat.le_refl _) _).alloc (by simp) _).alloc (by simp; omega) _
  have hSb := (Blk.new (w.alloc (Obj.cells #[Value.string L.name, Value.slice A L.ps.length cap, Value.slice E L.es.length cap', Value.int .i64 L.fr] 25)) 61 #[.int .i64 s.x, .int .i64 s.y, .int .i64 s.z]).alloc (Obj.cells #[.int .i64 0, .int .i64 0] 57)
  have hRb := Blk.new ((w.alloc (Obj.cells #[Value.string L.name, Value.slice A L.ps.length cap, Value.slice E L.es.length cap', Value.int .i64 L.fr] 25)).alloc (Obj.cells #[.int .i64 s.x, .int .i64 s.y, .int .i64 s.z] 61)) 57 #[.int .i64 0, .int .i64 0]
  rw [World.size_alloc] at hSb
  rw [World.size_alloc, World.size_alloc] at hRb
  (with_reducible refine (newRig_ok A E cap cap' L HOK.out _ ((hL.below hB0).more hB0.size)).mono ?_)
  rintro e w1 ⟨g, rfl, hge, hR1, hb1⟩
  have hS1 := hSb.below hb1 (by simp)
  have hR1b := hRb.below hb1 (by simp)
  have hB1 := hB0.trans (hb1.mono hB0.size)
  clear hb1 hB0 hSb hRb
  have s0 : w1.cell? ⟨w.heap.size + 1, 0, none⟩ = some (.int .i64 s.x) := by simpa using hS1.cell 0
  have s1 : w1.cell? ⟨w.heap.size + 1, 1, none⟩ = some (.int .i64 s.y) := by simpa using hS1.cell 1
  have s2 : w1.cell? ⟨w.heap.size + 1, 2, none⟩ = some (.int .i64 s.z) := by simpa using hS1.cell 2
  go_wp2_with fail
  (with_reducible refine (steady_yes s HS.out _).mono ?_)
  rintro e w2 ⟨rfl, hb2⟩
  have hB2 := hB1.trans (hb2.mono hB1.size)
  have hR2 : RigIn w2 g A E cap cap' L := Blk.below hR1 hb2 (Blk.lt hR1)
  have hS2 := hS1.below hb2 hS1.lt
  have hRb2 := hR1b.below hb2 hR1b.lt
  clear s0 s1 s2 hR1 hS1 hR1b hB1 hb2
  have s0 : w2.cell? ⟨w.heap.size + 1, 0, none⟩ = some (.int .i64 s.x) := by simpa using hS2.cell 0
  have s1 : w2.cell? ⟨w.heap.size + 1, 1, none⟩ = some (.int .i64 s.y) := by simpa using hS2.cell 1
  have s2 : w2.cell? ⟨w.heap.size + 1, 2, none⟩ = some (.int .i64 s.z) := by simpa using hS2.cell 2
  have s4 : w2.cell? ⟨g, 4, none⟩ = some (.int .i64 (totalS L.ps).m) := by simpa using Blk.cell hR2 4
  have hglt := Blk.lt hR2
  have hslt := hS2.lt
  have HR : RowKit.Hid (∀ W, Below w2.heap.size w2 W → RigIn W g A E cap cap' L) := fun W hW => Blk.below hR2 hW (Blk.lt hR2)
  have HSZ : RowKit.Hid (w.heap.size ≤ w2.heap.size) := hB2.size
  have hBr : Below w2.heap.size w2 w2.drew := below_drewN (Below.refl _ _) 1
  have hS00 : HoldS w2 (w.heap.size + 1) g s.x s.y s.z (totalS L.ps).m w2 := ⟨Below.refl _ _, Nat.le_refl _, hslt, hglt, s0, s1, s2, s4⟩
  have hS0 : HoldS w2 (w.heap.size + 1) g s.x s.y s.z (totalS L.ps).m w2.drew := ⟨hBr, Nat.le_refl _, hslt, hglt, s0, s1, s2, s4⟩
  go_wp2_with fail
  go_upto_region 6 with (fail)
  go_cut [10, 11] from 27 to 35 (fun a b W => HeldAt w2 (reachS L s) (needS (totalS L.ps).m s) a b W)
  case first =>
    go_region_held3 (fun w' => Below w2.heap.size w2 w' ∧ w2.heap.size ≤ w'.heap.size ∧ w.heap.size + 1 < w'.heap.size ∧ g < w'.heap.size ∧ w'.cell? ⟨w.heap.size + 1, 0, none⟩ = some (.int .i64 s.x) ∧ w'.cell? ⟨w.heap.size + 1, 1, none⟩ = some (.int .i64 s.y) ∧ w'.cell? ⟨w.heap.size + 1, 2, none⟩ = some (.int .i64 s.z) ∧ w'.cell? ⟨g, 4, none⟩ = some (.int .i64 (totalS L.ps).m))
      (first
        | exact hS0
        | exact keepC (by assumption) (by first | assumption | (unfold HoldS; assumption)) hslt hglt
        | ((repeat (first | assumption | (unfold HoldS; assumption) | refine keepD ?_ | refine keepA ?_ hslt hglt _ | refine keepW2 ?_ hslt hglt _ (by first | omega | (simp; omega)) _ _ | refine keepW ?_ hslt hglt _ (by first | omega | (simp; omega)) _)); done)
        | (simp [*]; done))
      (first
        | (go_at_call 44; (with_reducible refine (need_any (totalS L.ps).m s HP.out.1 HP.out.2 HS.out _).mono ?_); rintro e w' ⟨rfl, hbN⟩; have hbq := hbN; have hzz := hbq.size; (try simp at hzz); have hk : HoldS w2 (w.heap.size + 1) g s.x s.y s.z (totalS L.ps).m w' := keepC hbq (by first | assumption | (unfold HoldS; assumption)) hslt hglt; obtain ⟨hbc, hbf⟩ := bcell hbq; have hbz := below_lt hbq; have hbs := hk.2.1; (try have hx1 : w2.heap.size < w'.heap.size := by have hq := hbq.size; (try simp at hq); omega); (try have hx2 : w2.heap.size + 1 < w'.heap.size := by have hq := hbq.size; (try simp at hq); omega))
        | (go_at_call 42; (with_reducible refine (reach_any g A E cap cap' L HOK.out s HS.out _ (HR.out _ (HoldS.below (b := w.heap.size + 1) (g := g) (x := s.x) (y := s.y) (z := s.z) (m := (totalS L.ps).m) (by first | assumption | (unfold HoldS; assumption))))).mono ?_); rintro e w' ⟨gq, capq, rfl, hOq, hbR⟩; have hbq := hbR; have hgl := hOq.lt; have hgg := hOq.ge; (try simp at hgg); have hzz := hbq.size; (try simp at hzz); have hk : HoldS w2 (w.heap.size + 1) g s.x s.y s.z (totalS L.ps).m w' := keepC hbq (by first | assumption | (unfold HoldS; assumption)) hslt hglt; obtain ⟨hbc, hbf⟩ := bcell hbq; have hbz := below_lt hbq; have hbs := hk.2.1; (try have hx1 : w2.heap.size < w'.heap.size := by have hq := hbq.size; (try simp at hq); omega); (try have hx2 : w2.heap.size + 1 < w'.heap.size := by have hq := hbq.size; (try simp at hq); omega)))
    all_goals
      go_wp2_with fail
      go_meet
      have hBe := HoldS.below (b := w.heap.size + 1) (g := g) (x := s.x) (y := s.y) (z := s.z) (m := (totalS L.ps).m) (by first | assumption | (unfold HoldS; assumption))
      refine ⟨_, _, gq, capq, rfl, rfl, ?_, ?_, ?_, hBe⟩
      · repeat (first | ((with_reducible refine blk_new1 ?_); (first | (with_reducible rfl) | (simp [setSize]; done))) | (with_reducible refine Blk.below ?_ hbN (by first | omega | (simp; done) | (simp; omega))) | (with_reducible refine Blk.below ?_ hbR (by first | omega | (simp; done) | (simp; omega))) | (with_reducible refine Blk.drew ?_) | (with_reducible refine blk_set1 ?_) | (with_reducible refine blk_set2 ?_) | (with_reducible refine Blk.far ?_ (by first | omega | (simp; done) | (simp; omega)) _) | (with_reducible refine Blk.alloc ?_ _))
      · repeat (first | ((with_reducible refine blk_new1 ?_); (first | (with_reducible rfl) | (simp [setSize]; done))) | (with_reducible refine Blk.below ?_ hbN (by first | omega | (simp; done) | (simp; omega))) | (with_reducible refine Blk.below ?_ hbR (by first | omega | (simp; done) | (simp; omega))) | (with_reducible refine Blk.drew ?_) | (with_reducible refine blk_set1 ?_) | (with_reducible refine blk_set2 ?_) | (with_reducible refine Blk.far ?_ (by first | omega | (simp; done) | (simp; omega)) _) | (with_reducible refine Blk.alloc ?_ _))
      · repeat (first | (with_reducible refine OwnP.more hOq (by first | omega | (simp; done) | (simp; omega))) | (with_reducible refine OwnP.drew ?_) | (with_reducible refine OwnP.below ?_ hbN (by first | omega | (simp; done) | (simp; omega))) | (with_reducible refine ownP_set ?_ (by first | omega | (simp; done) | (simp; omega)) _) | (with_reducible refine OwnP.alloc ?_ _))
  case rest =>
    obtain ⟨Bh, Bp, gh, caph, rfl, rfl, hBh, hBp, hOh, hBc⟩ := hcut
    have hRb3 := hRb2.below hBc hRb2.lt
    have hB3 := hB2.trans (hBc.mono hB2.size)
    have hOg := hOh.ge
    have hOl := hOh.lt
    clear s0 s1 s2 s4 hS2 hRb2 hR2 hBr hS0 hS00
    generalize hH : reachS L s = H at *
    generalize hP : needS (totalS L.ps).m s = P at *
    have HH := Lib.hid hH
    have HPP := Lib.hid hP
    clear hH hP
    have c0 : wc.cell? ⟨Bh, 0, none⟩ = some (.slice (some ⟨gh, 0, none⟩) H.length caph) := by simpa using hBh.cell 0
    have p0 : wc.cell? ⟨Bp, 0, none⟩ = some (.int .i64 P.1) := by simpa using hBp.cell 0
    have p1 : wc.cell? ⟨Bp, 1, none⟩ = some (.int .i64 P.2) := by simpa using hBp.cell 1
    have h0 : H ≠ [] := by intro e; rw [e] at hlen1; simp at hlen1
    go_wp2_with fail
    (with_reducible refine (contains_any gh 0 caph H h0 (by omega) P.1 P.2 1 HCON.out _ (PtsAt.of_own hOh.own) hOl).mono ?_)
    rintro e w4 ⟨rfl, hb4⟩
    have hB4 := hB3.trans (hb4.mono hB3.size)
    have hRb4 := hRb3.below hb4 hRb3.lt
    have hqc := HQ.out
    cases hcc : containsS H P.1 P.2 1 with
    | true =>
      have HCC := Lib.hid hcc
      clear hcc hqc
      have r0 : w4.cell? ⟨w.heap.size + 1 + 1, 0, none⟩ = some (.int .i64 0) := by simpa using hRb4.cell 0
      have r1 : w4.cell? ⟨w.heap.size + 1 + 1, 1, none⟩ = some (.int .i64 0) := by simpa using hRb4.cell 1
      have f0 := hRb4.frozen 0
      have f1 := hRb4.frozen 1
      go_wp2_with fail
      have hR5 := (hRb4.set_ 0 (.int .i64 0)).set_ 1 (.int .i64 0)
      have hB5 := (hB4.setCell (p := ⟨w.heap.size + 1 + 1, 0, none⟩) (by simp; omega) (.int .i64 0)).setCell (p := ⟨w.heap.size + 1 + 1, 1, none⟩) (by simp; omega) (.int .i64 0)
      clear r0 r1 f0 f1
      generalize (w4.setCell _ _).setCell _ _ = w5 at *
      have r0 : w5.cell? ⟨w.heap.size + 1 + 1, 0, none⟩ = some (.int .i64 0) := by simpa using hR5.cell 0
      have r1 : w5.cell? ⟨w.heap.size + 1 + 1, 1, none⟩ = some (.int .i64 0) := by simpa using hR5.cell 1
      exact bodyPost_ret (v := .tuple #[.agg #[.int .i64 0, .int .i64 0], .int .i64 0]) (by simp [results, Tryz.results26, go_sem, r0, r1]) rfl ⟨.inl ⟨by rw [HH.out, HPP.out]; exact HCC.out, rfl⟩, hB5⟩
    | false =>
      have HCC := Lib.hid hcc
      obtain ⟨k, hk, hkp, hkj⟩ := hqc hcc
      have HKJ := Lib.hid hkj
      have HKP := Lib.hid hkp
      have HKK := Lib.hid hk
      clear hkj hkp hk hcc hqc
      have hsm : ∀ p ∈ H, PtSm p := fun p hp => by have := HCON.out.pts p hp; exact ⟨by omega, by omega, by omega, by omega⟩
      have hPsm : PtSm P := HPS.out
      have hds := norms_sm HCON.out.pts
      have hH4 := hOh.below hb4 hOl
      have hBh4 := hBh.below hb4 hBh.lt
      have hBp4 := hBp.below hb4 hBp.lt
      clear c0 p0 p1
      have c0 : w4.cell? ⟨Bh, 0, none⟩ = some (.slice (some ⟨gh, 0, none⟩) H.length caph) := by simpa using hBh4.cell 0
      go_wp2_with fail
      (with_reducible refine (normals_any gh 0 caph H hlen1 (by omega) hsm _ (PtsAt.of_own hH4.own) hH4.lt).mono ?_)
      rintro e w5 ⟨gn, capn, rfl, hOn, hb5⟩
      have hB5 := hB4.trans (hb5.mono hB4.size)
      have hRb5 := hRb4.below hb5 hRb4.lt
      have hH5 := hH4.below hb5 hH4.lt
      have hBh5 := hBh4.below hb5 hBh4.lt
      have hBp5 := hBp4.below hb5 hBp4.lt
      have hk := HKK.out
      have hkp := HKP.out
      have hkj := HKJ.out
      have hkl : k < (normsS H).length := (List.getElem?_eq_some_iff.1 hk).1
      have hnl : (normsS H).length ≤ 100 := by rw [normsS_len H (by omega)]; exact hlen2
      have hm : ((normsS H).attachWith DirSm hds).map (·.1) = normsS H := List.attachWith_map_subtype_val hds
      have hat : ∀ j, j < (normsS H).length → ((normsS H).attachWith DirSm hds)[j]!.1 = (normsS H)[j]! := by
        intro j hj
        rw [getElem!_pos _ j (by simpa using hj), getElem!_pos _ j hj]
        simp
      have hc : ∀ j, j < ((normsS H).attachWith DirSm hds).length → ∀ i v, (encPt (((normsS H).attachWith DirSm hds)[j]!).1)[i]? = some v → w5.cell? ⟨gn, 0 + j * 2 + i, none⟩ = some v := by
        intro j hj i v hv
        have hj' : j < (normsS H).length := by simpa using hj
        rw [hat j hj', getElem!_pos _ j hj'] at hv
        have h1 := hOn.x (List.getElem?_eq_getElem hj')
        have h2 := hOn.y (List.getElem?_eq_getElem hj')
        rw [Nat.zero_add]
        match i, hv with
        | 0, hv => cases hv; exact h1
        | 1, hv => cases hv; exact h2
        | i + 2, hv => simp [encPt] at hv
      have hI := AnyQ.slices_IndexFunc Tryz.ixfPt 2 Tryz.isAgg57 Tryz.sizeOf57 (fun q : DPt => encPt q.1) (fun q => encPt_len q.1) (fun q : DPt => provesS H P q.1) 48 #[.pointer (some ⟨Bh, 0, none⟩), .pointer (some ⟨Bp, 0, none⟩)]
        (fun args w => enters_of Tryz.func48 (by kernel_rfl) rfl args w) gn 0 (normsS H).length capn ((normsS H).attachWith DirSm hds) w5
        (fun W q hW => ((hold1_any gh 0 caph H (by omega) hsm P q.1 hPsm q.2 Bh Bp W (Nat.lt_of_lt_of_le hH5.lt hW.size) ((PtsAt.of_own (hH5.below hW hH5.lt).own)) (by simpa using (hBh5.below hW hBh5.lt).cell 0) (by simpa using (hBp5.below hW hBp5.lt).cell 0) (by simpa using (hBp5.below hW hBp5.lt).cell 1) (Nat.lt_of_lt_of_le hBh5.lt hW.size) (Nat.lt_of_lt_of_le hBp5.lt hW.size)).mono fun e w' he => ⟨he.1, hW.trans (he.2.mono hW.size)⟩))
        (by simp) (by omega) hOn.lt hc
      rw [Lib.idxBy_hit (fun _ (y : DPt) => provesS H P y.1) ((normsS H).attachWith DirSm hds) (normsS H).length k default hkl (by simp) (by show provesS H P _ = true; rw [hat k hkl, getElem!_pos _ k hkl]; rw [List.getElem?_eq_getElem hkl] at hk; rw [Option.some.inj hk]; exact hkp)
        (fun j hj => by show provesS H P _ = false; have hj' : j < (normsS H).length := by omega
                        rw [hat j hj', getElem!_pos _ j hj']; exact hkj j _ hj (List.getElem?_eq_getElem hj'))] at hI
      have HI := Lib.hid hI
      clear hI hc hat hm hkj hkp hk c0
      have kk1 : (k : Int) < ((normsS H).length : Int) := by omega
      have kk0 : (0 : Int) ≤ (k : Int) := by omega
      go_wp2_with fail
      refine Calls.mono (show Calls Tryz.prog 47 _ w5 _ from HI.out) ?_
      rintro e w6 ⟨rfl, hb6⟩
      have hB6 := hB5.trans (hb6.mono hB5.size)
      have hRb6 := hRb5.below hb6 hRb5.lt
      have hO6 := hOn.below hb6 hOn.lt
      have n0 := hO6.x HKK.out
      have n1 := hO6.y HKK.out
      have r0 : w6.cell? ⟨w.heap.size + 1 + 1, 0, none⟩ = some (.int .i64 0) := by simpa using hRb6.cell 0
      have r1 : w6.cell? ⟨w.heap.size + 1 + 1, 1, none⟩ = some (.int .i64 0) := by simpa using hRb6.cell 1
      have f0 := hRb6.frozen 0
      have f1 := hRb6.frozen 1
      go_wp2_with fail
      have hR7 := (hRb6.set_ 0 (.int .i64 q.1)).set_ 1 (.int .i64 q.2)
      have hB7 := (hB6.setCell (p := ⟨w.heap.size + 1 + 1, 0, none⟩) (by simp; omega) (.int .i64 q.1)).setCell (p := ⟨w.heap.size + 1 + 1, 1, none⟩) (by simp; omega) (.int .i64 q.2)
      clear r0 r1 f0 f1 n0 n1
      generalize (w6.setCell _ _).setCell _ _ = w7 at *
      have r0 : w7.cell? ⟨w.heap.size + 1 + 1, 0, none⟩ = some (.int .i64 q.1) := by simpa using hR7.cell 0
      have r1 : w7.cell? ⟨w.heap.size + 1 + 1, 1, none⟩ = some (.int .i64 q.2) := by simpa using hR7.cell 1
      exact bodyPost_ret (v := .tuple #[.agg #[.int .i64 q.1, .int .i64 q.2], .int .i64 20]) (by simp [results, Tryz.results26, go_sem, r0, r1]) rfl ⟨.inr ⟨by rw [HH.out, HPP.out]; exact HCC.out, rfl⟩, hB7⟩

end Go.Proofs.YtacmiobhnfeflaaGreat
