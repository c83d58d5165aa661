import Derived.Test.YtacmiobhnfeflaaGreatAround2
import Derived.Test.YtacmiobhnfeflaaGreatNormals
namespace Go.Proofs.YtacmiobhnfeflaaGreat
open Go.RowKit Go.Sort Go.Shelf

def dotP (a n : Pt) : Int := a.1 * n.1 + a.2 * n.2
/-- Does a direction prove that a point is outside? -/
def provesS (h : List Pt) (p n : Pt) : Bool := !(h.any fun a => decide (dotP p n ≤ dotP a n))
/-- A direction within bounds. -/
structure DirSm (n : Pt) : Prop where
  x1 : -536870912 ≤ n.1
  x2 : n.1 ≤ 536870912
  y1 : -536870912 ≤ n.2
  y2 : n.2 ≤ 536870912

theorem dot_bd {a n : Pt} (ha : PtSm a) (hn : DirSm n) : (-288230376151711744 ≤ a.1 * n.1 ∧ a.1 * n.1 ≤ 288230376151711744) ∧ (-288230376151711744 ≤ a.2 * n.2 ∧ a.2 * n.2 ≤ 288230376151711744) := by
  obtain ⟨a1, a2, a3, a4⟩ := ha
  obtain ⟨n1, n2, n3, n4⟩ := hn
  have h1 := mul_bd2 a.1 n.1 536870912 (by omega) (by omega) n1 n2 (by omega)
  have h2 := mul_bd2 a.2 n.2 536870912 (by omega) (by omega) n3 n4 (by omega)
  omega

set_option maxRecDepth 100000 in
set_option maxHeartbeats 1000000 in
theorem proves1_any (a p n : Pt) (ha : PtSm a) (hp : PtSm p) (hn : DirSm n) (Bn Bp : Nat) (w : World) (hBn : BoxP w Bn n) (hBp : BoxP w Bp p) :
    Calls Tryz.prog 71 #[.agg #[.int .i64 a.1, .int .i64 a.2], .pointer (some ⟨Bn, 0, none⟩), .pointer (some ⟨Bp, 0, none⟩)] w fun e w' =>
      e = .returned (.bool (decide (dotP p n ≤ dotP a n))) ∧ Below w.heap.size w w' := by
  obtain ⟨⟨q1, q2⟩, q3, q4⟩ := dot_bd ha hn
  obtain ⟨⟨r1, r2⟩, r3, r4⟩ := dot_bd hp hn
  have HD : RowKit.Hid (decide (dotP p n ≤ dotP a n) = decide (p.1 * n.1 + p.2 * n.2 ≤ a.1 * n.1 + a.2 * n.2)) := rfl
  have e1 : IntKind.i64.wrap (a.1 * n.1) = a.1 * n.1 := IntWalk.i64_in _ (by omega)
  have e2 : IntKind.i64.wrap (a.2 * n.2) = a.2 * n.2 := IntWalk.i64_in _ (by omega)
  have e3 : IntKind.i64.wrap (p.1 * n.1) = p.1 * n.1 := IntWalk.i64_in _ (by omega)
  have e4 : IntKind.i64.wrap (p.2 * n.2) = p.2 * n.2 := IntWalk.i64_in _ (by omega)
  have e5 : IntKind.i64.wrap (a.1 * n.1 + a.2 * n.2) = a.1 * n.1 + a.2 * n.2 := IntWalk.i64_in _ (by omega)
  have e6 : IntKind.i64.wrap (p.1 * n.1 + p.2 * n.2) = p.1 * n.1 + p.2 * n.2 := IntWalk.i64_in _ (by omega)
  have hn0 := hBn.x
  have hn1 := hBn.y
  have hp0 := hBp.x
  have hp1 := hBp.y
  have l1 := hBn.lt
  have l2 := hBp.lt
  go_enter Tryz.func71, Tryz.ntmps71
  go_wp2_with fail
  go_ret
  exact ⟨ret_bool HD.out.symm, (Below.refl _ _).alloc (Nat.le_refl _) _⟩

set_option maxRecDepth 100000 in
set_option maxHeartbeats 1000000 in
theorem proves_any (b off cap : Nat) (h : List Pt) (hl : h.length ≤ 1000000) (hs : ∀ q ∈ h, PtSm q) (p n : Pt) (hp : PtSm p) (hn : DirSm n) (w : World) (hb : b < w.heap.size) (hP : PtsAt w w.heap.size (some ⟨b, off, none⟩) h) :
    Calls Tryz.prog 49 #[.slice (some ⟨b, off, none⟩) h.length cap, .agg #[.int .i64 p.1, .int .i64 p.2], .agg #[.int .i64 n.1, .int .i64 n.2]] w fun e w' =>
      e = .returned (.bool (provesS h p n)) ∧ Below w.heap.size w w' := by
  have hm : (h.attachWith PtSm hs).map (·.1) = h := List.attachWith_map_subtype_val hs
  have HA : RowKit.Hid (provesS h p n = !((h.attachWith PtSm hs).take h.length).any fun q : SPt => decide (dotP p n ≤ dotP q.1 n)) := by
    show provesS h p n = _
    unfold provesS
    conv => lhs; rw [← hm]
    rw [List.any_map, List.take_of_length_le (by simp)]
    rfl
  go_enter Tryz.func49, Tryz.ntmps49
  go_wp2_with fail
  have h1 := (BoxP.new w p)
  have h2 := (BoxP.new (w.alloc (.cells #[.int .i64 p.1, .int .i64 p.2] 57)) n)
  rw [World.size_alloc] at h2
  have h1' := h1.kept (World.grownBy_alloc _ (.cells #[.int .i64 n.1, .int .i64 n.2] 57) none) (by simp)
  have hB2 : Below w.heap.size w ((w.alloc (.cells #[.int .i64 p.1, .int .i64 p.2] 57)).alloc (.cells #[.int .i64 n.1, .int .i64 n.2] 57)) := ((Below.refl _ _).alloc (Nat.le_refl _) _).alloc (by simp) _
  have hP2 := (hP.below hB2)
  generalize (w.alloc _).alloc _ = w2 at *
  have hc : ∀ j, j < (h.attachWith PtSm hs).length → ∀ i v, (encPt ((h.attachWith PtSm hs)[j]!).1)[i]? = some v → w2.cell? ⟨b, off + j * 2 + i, none⟩ = some v := by
    intro j hj i v hv
    have hj' : j < h.length := by simpa using hj
    have e : ((h.attachWith PtSm hs)[j]!).1 = h[j] := by
      rw [getElem!_pos _ j hj]
      simp
    rw [e] at hv
    obtain ⟨b', off', hA, _, c0, c1⟩ := hP2 j h[j] (List.getElem?_eq_getElem hj')
    injection hA with e1
    injection e1 with e1 e2
    subst e1; subst e2
    match i, hv with
    | 0, hv => cases hv; exact c0
    | 1, hv => cases hv; exact c1
    | i + 2, hv => simp [encPt] at hv
  have hC := AnyQ.slices_ContainsFunc Tryz.ctfPt 2 Tryz.isAgg57 Tryz.sizeOf57 (fun q : SPt => encPt q.1) (fun q => encPt_len q.1) (fun q : SPt => decide (dotP p n ≤ dotP q.1 n)) 71 #[.pointer (some ⟨w.heap.size + 1, 0, none⟩), .pointer (some ⟨w.heap.size, 0, none⟩)]
    (fun args w => enters_of Tryz.func71 (by kernel_rfl) rfl args w) b off h.length cap (h.attachWith PtSm hs) w2
    (fun W q hW => ((proves1_any q.1 p n q.2 hp hn _ _ W ((hW.block _ h2.lt).trans h2) ((hW.block _ h1'.lt).trans h1')).mono fun e w' he => ⟨he.1, hW.trans (he.2.mono hW.size)⟩))
    (by simp) (by omega) (Nat.lt_of_lt_of_le hb hB2.size) hc
  have HC := Lib.hid hC
  clear hC hc
  refine Calls.mono (show Calls Tryz.prog 70 _ w2 _ from HC.out) ?_
  rintro e w3 ⟨rfl, hb3⟩
  have HA' := HA
  generalize ((h.attachWith PtSm hs).take h.length).any (fun q : SPt => decide (dotP p n ≤ dotP q.1 n)) = t at *
  go_wp2_with fail
  go_ret
  exact ⟨ret_bool HA.out.symm, hB2.trans (hb3.mono hB2.size)⟩

set_option maxRecDepth 100000 in
set_option maxHeartbeats 1000000 in
theorem hold1_any (b off cap : Nat) (h : List Pt) (hl : h.length ≤ 1000000) (hs : ∀ q ∈ h, PtSm q) (p n : Pt) (hp : PtSm p) (hn : DirSm n) (Bh Bp : Nat) (w : World) (hb : b < w.heap.size) (hP : PtsAt w w.heap.size (some ⟨b, off, none⟩) h)
    (ch : w.cell? ⟨Bh, 0, none⟩ = some (.slice (some ⟨b, off, none⟩) h.length cap)) (hp0 : w.cell? ⟨Bp, 0, none⟩ = some (.int .i64 p.1)) (hp1 : w.cell? ⟨Bp, 1, none⟩ = some (.int .i64 p.2)) (l1 : Bh < w.heap.size) (l2 : Bp < w.heap.size) :
    Calls Tryz.prog 48 #[.agg #[.int .i64 n.1, .int .i64 n.2], .pointer (some ⟨Bh, 0, none⟩), .pointer (some ⟨Bp, 0, none⟩)] w fun e w' =>
      e = .returned (.bool (provesS h p n)) ∧ Below w.heap.size w w' := by
  have hB1 : Below w.heap.size w (w.alloc (.cells #[.int .i64 n.1, .int .i64 n.2] 57)) := (Below.refl _ _).alloc (Nat.le_refl _) _
  go_enter Tryz.func48, Tryz.ntmps48
  go_wp2_with fail
  (with_reducible refine (proves_any b off cap h hl hs p n hp hn _ (Nat.lt_of_lt_of_le hb hB1.size) ((hP.below hB1).more hB1.size)).mono ?_)
  rintro e w3 ⟨rfl, hb3⟩
  go_wp2_with fail
  go_ret
  exact ⟨rfl, hB1.trans (hb3.mono hB1.size)⟩

end Go.Proofs.YtacmiobhnfeflaaGreat
