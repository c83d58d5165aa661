import Derived.Test.YtacmiobhnfeflaaGreatBase
import Derived.Deep.DeepCutAuto
import Derived.Deep.LoopGhost
import Derived.ChangeAlike
import Derived.IntWalk
import Derived.Deep.RegionHeld3
namespace Go.Proofs.YtacmiobhnfeflaaGreat
open Go.RowKit

def okAt (a s lo : Int) : Prop := lo ≤ a ∧ a ≤ 131072 ∧ 1 ≤ s ∧ s ≤ 131072 - a
instance (a s lo : Int) : Decidable (okAt a s lo) := by unfold okAt; infer_instance
def Pc.atf (p : Pc) : Nat → Int
  | 0 => p.x
  | 1 => p.y
  | _ => p.z
def Pc.szf (p : Pc) : Nat → Int
  | 0 => p.l
  | 1 => p.w
  | _ => p.h
def lsf : Nat → Int
  | 0 => -131072
  | 1 => -131072
  | _ => 0
def Pc.okB (p : Pc) : Bool := decide (okAt p.x p.l (-131072) ∧ okAt p.y p.w (-131072) ∧ okAt p.z p.h 0 ∧ 0 ≤ p.m ∧ p.m ≤ 16777216)
theorem Pc.okB_iff (p : Pc) : p.okB = true ↔ p.Ok := by
  unfold Pc.okB okAt
  rw [decide_eq_true_iff]
  constructor
  · rintro ⟨⟨a1, a2, a3, a4⟩, ⟨b1, b2, b3, b4⟩, ⟨c1, c2, c3, c4⟩, m1, m2⟩
    exact ⟨a1, a2, b1, b2, c1, c2, a3, a4, b3, b4, c3, c4, m1, m2⟩
  · rintro ⟨a1, a2, b1, b2, c1, c2, a3, a4, b3, b4, c3, c4, m1, m2⟩
    exact ⟨⟨a1, a2, a3, a4⟩, ⟨b1, b2, b3, b4⟩, ⟨c1, c2, c3, c4⟩, m1, m2⟩

theorem Pc.okB_no (p : Pc) (j : Nat) (hj : j < 3) (h : ¬ okAt (p.atf j) (p.szf j) (lsf j)) : p.okB = false := by
  unfold Pc.okB
  refine decide_eq_false ?_
  rintro ⟨h0, h1, h2, _⟩
  match j, hj with
  | 0, _ => exact h h0
  | 1, _ => exact h h1
  | 2, _ => exact h h2
theorem Pc.okB_all (p : Pc) (h : ∀ j, j < 3 → okAt (p.atf j) (p.szf j) (lsf j)) : p.okB = decide (0 ≤ p.m ∧ p.m ≤ 16777216) := by
  unfold Pc.okB
  have h0 := h 0 (by omega)
  have h1 := h 1 (by omega)
  have h2 := h 2 (by omega)
  have e : (okAt p.x p.l (-131072) ∧ okAt p.y p.w (-131072) ∧ okAt p.z p.h 0 ∧ 0 ≤ p.m ∧ p.m ≤ 16777216) ↔ (0 ≤ p.m ∧ p.m ≤ 16777216) :=
    ⟨fun h => h.2.2.2, fun h => ⟨h0, h1, h2, h⟩⟩
  exact decide_eq_decide.2 e

set_option maxHeartbeats 4000000 in
theorem validPiece_any (p : Pc) (w : World) :
    Calls Tryz.prog 20 #[.agg #[.int .i64 p.x, .int .i64 p.y, .int .i64 p.z, .int .i64 p.l, .int .i64 p.w, .int .i64 p.h, .int .i64 p.m]] w fun e w' =>
      e = .returned (.bool p.okB) ∧ Below w.heap.size w w' := by
  go_enter Tryz.func20, Tryz.ntmps20
  go_upto_region 1 with (fail)
  go_cut [3, 4] (fun s3 s4 wx => ∃ b1 b2 : Nat, s3 = .pointer (some ⟨b1, 0, none⟩) ∧ s4 = .pointer (some ⟨b2, 0, none⟩) ∧ b1 < wx.heap.size ∧ b2 < wx.heap.size ∧
    (∀ k, k < 3 → wx.cell? ⟨b1, k, none⟩ = some (.int .i64 (p.atf k)) ∧ wx.cell? ⟨b2, k, none⟩ = some (.int .i64 (p.szf k))) ∧
    wx.cell? ⟨w.heap.size, 6, none⟩ = some (.int .i64 p.m) ∧ w.heap.size < wx.heap.size ∧ Below w.heap.size w wx)
  case first =>
    go_region_held3 (fun w' => w'.cell? ⟨w.heap.size, 0, none⟩ = some (.int .i64 p.x) ∧ w'.cell? ⟨w.heap.size, 1, none⟩ = some (.int .i64 p.y) ∧ w'.cell? ⟨w.heap.size, 2, none⟩ = some (.int .i64 p.z) ∧ w'.cell? ⟨w.heap.size, 3, none⟩ = some (.int .i64 p.l) ∧ w'.cell? ⟨w.heap.size, 4, none⟩ = some (.int .i64 p.w) ∧ w'.cell? ⟨w.heap.size, 5, none⟩ = some (.int .i64 p.h)) (go_keep) (fail)
    all_goals
      go_wp2_with fail
      go_meet
      refine ⟨_, _, rfl, rfl, by simp, by simp, ?_, by simp [go_sem], by simp; omega, by repeat (first | exact Below.refl _ _ | refine below_drewN ?_ _ | refine Below.alloc ?_ (by first | (simp; done) | (simp; omega)) _)⟩
      intro k hk
      match k, hk with
      | 0, _ => exact ⟨by simp [go_sem, Pc.atf], by simp [go_sem, Pc.szf]⟩
      | 1, _ => exact ⟨by simp [go_sem, Pc.atf], by simp [go_sem, Pc.szf]⟩
      | 2, _ => exact ⟨by simp [go_sem, Pc.atf], by simp [go_sem, Pc.szf]⟩
  case rest =>
    obtain ⟨b1, b2, rfl, rfl, hb1, hb2, hc, hm, hw, hB⟩ := hcut
    go_wp2
    obtain ⟨wo, hwo⟩ : ∃ wo, wo = wc.alloc (Obj.cells #[Value.int IntKind.i64 (-131072), Value.int IntKind.i64 (-131072), Value.int IntKind.i64 0] 47) := ⟨_, rfl⟩
    have hc1 : ∀ k, k < 3 → wo.cell? ⟨b1, k, none⟩ = some (.int .i64 (p.atf k)) ∧ wo.cell? ⟨b2, k, none⟩ = some (.int .i64 (p.szf k)) ∧ wo.cell? ⟨wc.heap.size, k, none⟩ = some (.int .i64 (lsf k)) := by
      intro k hk
      have hb : Below wc.heap.size wc wo := hwo ▸ (Below.refl _ _).alloc (Nat.le_refl _) _
      refine ⟨(hb.cell (p := ⟨b1, k, none⟩) hb1).trans (hc k hk).1, (hb.cell (p := ⟨b2, k, none⟩) hb2).trans (hc k hk).2, ?_⟩
      rw [hwo]
      match k, hk with
      | 0, _ => simp [go_sem, lsf]
      | 1, _ => simp [go_sem, lsf]
      | 2, _ => simp [go_sem, lsf]
    have hm1 : wo.cell? ⟨w.heap.size, 6, none⟩ = some (.int .i64 p.m) := by
      have hb : Below wc.heap.size wc wo := hwo ▸ (Below.refl _ _).alloc (Nat.le_refl _) _
      exact (hb.cell (p := ⟨w.heap.size, 6, none⟩) hw).trans hm
    have hB1 : Below w.heap.size w wo := hwo ▸ hB.alloc (by omega) _
    rw [← hwo]
    clear hwo hc hm hB hb1 hb2
    have HC := Lib.hid hc1
    clear hc1
    go_loopw [22] (fun i wr => ∃ k n : Nat, k ≤ 3 ∧ i = .int .i64 k ∧ wr = wo.drewN n ∧ RowKit.Hid (∀ j, j < k → okAt (p.atf j) (p.szf j) (lsf j))) (fun i _ => 3 - (intOf i).toNat)
    case atStart => exact ⟨0, 0, by omega, rfl, rfl, fun j hj => absurd hj (by omega)⟩
    case round =>
      obtain ⟨k, n, hk, rfl, rfl, hok⟩ := hrel
      by_cases hlt : k < 3
      · obtain ⟨hx1, hx2, hx3⟩ := HC.out k hlt
        by_cases h1 : lsf k ≤ p.atf k ∧ p.atf k ≤ 131072
        · by_cases h2 : 1 ≤ p.szf k
          · obtain ⟨h11, h12⟩ := h1
            have hl : -131072 ≤ lsf k := by
              match k, hlt with
              | 0, _ => decide
              | 1, _ => decide
              | 2, _ => decide
            have hsub : IntKind.i64.wrap (131072 - p.atf k) = 131072 - p.atf k := IntWalk.i64_in _ (by omega)
            by_cases h3 : p.szf k ≤ 131072 - p.atf k
            · go_wp2
              go_quiet ((go_at_call 19; first | exact quiet_add_left (between_yes _ _ _ (by first | exact ⟨h11, h12⟩ | exact h1) _) | exact quiet_left (between_yes _ _ _ (by first | exact ⟨h11, h12⟩ | exact h1) _) | exact quiet_same (between_yes _ _ _ (by first | exact ⟨h11, h12⟩ | exact h1) _)))
              go_wp2
              go_roundw
              case rel =>
                refine ⟨k + 1, _, by omega, by go_num, rfl, fun j hj => ?_⟩
                by_cases hj' : j = k
                · subst hj'
                  exact ⟨h11, h12, h2, h3⟩
                · exact hok j (by omega)
              case measure => simp [intOf]; omega
            · go_wp2
              go_quiet ((go_at_call 19; first | exact quiet_add_left (between_yes _ _ _ (by first | exact ⟨h11, h12⟩ | exact h1) _) | exact quiet_left (between_yes _ _ _ (by first | exact ⟨h11, h12⟩ | exact h1) _) | exact quiet_same (between_yes _ _ _ (by first | exact ⟨h11, h12⟩ | exact h1) _)))
              go_wp2
              go_ret
              exact ⟨ret_bool (p.okB_no k hlt (by unfold okAt; omega)).symm, by repeat (first | exact hB1 | refine below_drewN ?_ _)⟩
          · obtain ⟨h11, h12⟩ := h1
            have hd : decide (p.szf k < 1) = true := by simp; omega
            go_wp2
            go_quiet ((go_at_call 19; first | exact quiet_add_left (between_yes _ _ _ (by first | exact ⟨h11, h12⟩ | exact h1) _) | exact quiet_left (between_yes _ _ _ (by first | exact ⟨h11, h12⟩ | exact h1) _) | exact quiet_same (between_yes _ _ _ (by first | exact ⟨h11, h12⟩ | exact h1) _)))
            go_wp2
            go_ret
            exact ⟨ret_bool (p.okB_no k hlt (by unfold okAt; omega)).symm, by repeat (first | exact hB1 | refine below_drewN ?_ _)⟩
        · go_wp2
          go_quiet ((go_at_call 19; first | exact quiet_add_left (between_no _ _ _ (by exact h1) _) | exact quiet_left (between_no _ _ _ (by exact h1) _) | exact quiet_same (between_no _ _ _ (by exact h1) _)))
          go_wp2
          go_ret
          exact ⟨ret_bool (p.okB_no k hlt (by unfold okAt; omega)).symm, by repeat (first | exact hB1 | refine below_drewN ?_ _)⟩
      · obtain rfl : k = 3 := by omega
        have HO := Lib.hid (p.okB_all hok)
        clear hok
        go_wp2_with (go_at_call 19; refine (between_any _ _ _ _).mono ?_; rintro e w' ⟨rfl, rfl⟩)
        go_ret
        refine ⟨ret_bool ?_, ?_⟩
        · rw [HO.out]; simp
        · repeat (first | exact hB1 | refine below_drewN ?_ _)

end Go.Proofs.YtacmiobhnfeflaaGreat
