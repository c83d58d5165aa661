import Derived.Test.YtacmiobhnfeflaaGreatStands
import Derived.Test.YtacmiobhnfeflaaGreatCheck
namespace Go.Proofs.YtacmiobhnfeflaaGreat
open Go.RowKit

/-- Does a piece stand? -/
def StB (ps : List Pc) (i : Nat) (t : Bool) : Prop := (∀ l, IsOver ps i l → t = standsS ps i l) ∧ (t = true → ps[i]!.z = 0 ∨ underS ps i ≠ [])
/-- Which piece falls first, at a load that is valid. -/
def FallsR (ps : List Pc) (n c : Int) : Prop :=
  (n = 0 ∧ c = 5 ∧ ∀ j, j < ps.length → StB ps j true) ∨ (∃ k : Nat, n = k ∧ c = 0 ∧ k < ps.length ∧ StB ps k false ∧ ∀ j, j < k → StB ps j true)
def FallsPost (L : Ld) (w : World) (e : Ending) (w' : World) : Prop :=
  ∃ n c : Int, e = .returned (.tuple #[.int .i64 n, .int .i64 c]) ∧ Below w.heap.size w w' ∧ ((¬ L.Ok ∧ n = 0 ∧ IsCheck L c) ∨ (L.Ok ∧ FallsR L.ps n c))

set_option maxRecDepth 100000 in
set_option maxHeartbeats 1000000 in
theorem falls_any (A E : Option Addr) (cap cap' : Nat) (L : Ld) (w : World) (hL : LdAt w w.heap.size A E L) :
    Calls Tryz.prog 8 #[.agg #[.string L.name, .slice A L.ps.length cap, .slice E L.es.length cap', .int .i64 L.fr]] w (FallsPost L w) := by
  go_enter Tryz.func8, Tryz.ntmps8
  go_wp2_with fail
  have hB0 : Below w.heap.size w (w.alloc (Obj.cells #[Value.string L.name, Value.slice A L.ps.length cap, Value.slice E L.es.length cap', Value.int .i64 L.fr] 25)) := (Below.refl _ _).alloc (Nat.le_refl _) _
  (with_reducible refine (check_any A E cap cap' L _ ((hL.below hB0).more hB0.size)).mono ?_)
  rintro e w1 ⟨n, rfl, hC, hb1⟩
  have hBl := (Blk.new w 25 #[Value.string L.name, Value.slice A L.ps.length cap, Value.slice E L.es.length cap', Value.int .i64 L.fr]).below hb1 (by simp)
  have hB1 := hB0.trans (hb1.mono hB0.size)
  clear hb1 hB0
  by_cases hn : n = 0
  · subst hn
    have hOk := hC.zero.1 rfl
    clear hC
    obtain ⟨hl1, hl2, hl3⟩ := hOk.lens
    have HSUM := Lib.hid hOk.sum
    have HOK := Lib.hid hOk
    have HPS := Lib.hid hOk.ps
    clear hOk hl3
    have c1 : w1.cell? ⟨w.heap.size, 1, none⟩ = some (Value.slice A L.ps.length cap) := by simpa using hBl.cell 1
    go_wp2_with fail
    clear c1
    go_loopg [14] (L.ps.length) (fun m c wr => ∃ k, k + m = L.ps.length ∧ c = .int .i64 (k : Nat) ∧ RowKit.Hid (∀ j, j < k → StB L.ps j true) ∧ Blk wr w.heap.size 25 #[Value.string L.name, Value.slice A L.ps.length cap, Value.slice E L.es.length cap', Value.int .i64 L.fr] ∧ Below w.heap.size w wr)
    case atStart => exact ⟨0, by omega, rfl, fun j hj => absurd hj (by omega), hBl, hB1⟩
    case round =>
      obtain ⟨k, hk, rfl, hst, hBr, hB⟩ := hrel
      have HK := Lib.hid hk
      clear hk
      by_cases hlt : k < L.ps.length
      · have c1 : wr.cell? ⟨w.heap.size, 1, none⟩ = some (Value.slice A L.ps.length cap) := by simpa using hBr.cell 1
        go_wp2_with fail
        (with_reducible refine (stands_any A cap L.ps k hlt (by omega) HPS.out HSUM.out.2 _ ((hL.ps.below hB).more hB.size)).mono ?_)
        rintro e w2 ⟨t, rfl, h1, h2, hb2⟩
        have HS : RowKit.Hid (StB L.ps k t) := ⟨h1, h2⟩
        have hB2 := hB.trans (hb2.mono hB.size)
        have hBl2 := hBr.below hb2 hBr.lt
        clear h1 h2 c1
        cases t
        · go_wp2_with fail
          go_ret2
          exact ⟨k, 0, rfl, hB2, .inr ⟨HOK.out, .inr ⟨k, rfl, rfl, hlt, HS.out, hst.out⟩⟩⟩
        · go_wp2_with fail
          go_roundg (gk - 1)
          case measure => have := HK.out; omega
          case rel =>
            refine ⟨k + 1, by have := HK.out; omega, by go_num, fun j hj => ?_, hBl2, hB2⟩
            by_cases e : j = k
            · subst e; exact HS.out
            · exact hst.out j (by omega)
      · obtain rfl : k = L.ps.length := by have := HK.out; omega
        clear HK
        go_wp2_with fail
        go_ret2
        exact ⟨0, 5, rfl, hB, .inr ⟨HOK.out, .inl ⟨rfl, rfl, hst.out⟩⟩⟩
  · have HC := Lib.hid hC
    have HNO : RowKit.Hid (¬ L.Ok) := fun h => hn (hC.zero.2 h)
    have hd : (n != 0) = true := by simp [hn]
    clear hC
    go_wp2_with fail
    go_ret2
    exact ⟨0, n, rfl, hB1, .inl ⟨HNO.out, rfl, HC.out⟩⟩

end Go.Proofs.YtacmiobhnfeflaaGreat
