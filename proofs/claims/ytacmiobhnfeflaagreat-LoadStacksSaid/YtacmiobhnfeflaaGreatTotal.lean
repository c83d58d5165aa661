import Derived.Test.YtacmiobhnfeflaaGreatMem
import Derived.Deep.LoopGhost
namespace Go.Proofs.YtacmiobhnfeflaaGreat
open Go.RowKit

def Wt.zero : Wt := ⟨0, 0, 0, 0⟩
def totalS (ps : List Pc) : Wt := ps.foldl Wt.add Wt.zero

theorem totalS_snoc (ps : List Pc) (k : Nat) (h : k < ps.length) : totalS (ps.take (k + 1)) = (totalS (ps.take k)).add ps[k] := by
  unfold totalS
  rw [List.take_succ_eq_append_getElem h, List.foldl_append]
  rfl

def Wt.In (t : Wt) (n : Int) : Prop := (0 ≤ t.m ∧ t.m ≤ n * 4398046511104) ∧ (-(n * 4398046511104) ≤ t.a ∧ t.a ≤ n * 4398046511104) ∧ (-(n * 4398046511104) ≤ t.b ∧ t.b ≤ n * 4398046511104) ∧ (-(n * 4398046511104) ≤ t.c ∧ t.c ≤ n * 4398046511104)
theorem Wt.In.add {t : Wt} {n : Int} (h : t.In n) (p : Pc) (hp : p.Ok) : (t.add p).In (n + 1) := by
  obtain ⟨⟨x1, x2⟩, ⟨y1, y2⟩, z1, z2⟩ := Pc.box_bd hp
  have hm1 := hp.m1
  have hm2 := hp.m2
  have qx := mul_bd p.m _ hm1 hm2 x1 x2
  have qy := mul_bd p.m _ hm1 hm2 y1 y2
  have qz := mul_bd p.m _ hm1 hm2 z1 z2
  obtain ⟨⟨a1, a2⟩, ⟨b1, b2⟩, ⟨c1, c2⟩, d1, d2⟩ := h
  unfold Wt.In Wt.add
  dsimp only
  omega
theorem totalS_in (ps : List Pc) (hok : ∀ p ∈ ps, p.Ok) (k : Nat) (hk : k ≤ ps.length) : (totalS (ps.take k)).In k := by
  induction k with
  | zero => simp [totalS, Wt.zero, Wt.In]
  | succ k ih =>
    rw [totalS_snoc ps k (by omega)]
    have := (ih (by omega)).add ps[k] (hok _ (List.getElem_mem _))
    simpa using this
theorem Wt.In.sm {t : Wt} {n : Nat} (h : t.In n) (hn : n ≤ 40) : t.Sm := by
  obtain ⟨⟨a1, a2⟩, ⟨b1, b2⟩, ⟨c1, c2⟩, d1, d2⟩ := h
  unfold Wt.Sm
  omega

set_option maxRecDepth 100000 in
set_option maxHeartbeats 4000000 in
theorem total_any (A : Option Addr) (cap : Nat) (ps : List Pc) (hn : ps.length ≤ 40) (hok : ∀ p ∈ ps, p.Ok) (w : World) (hps : PcsAt w w.heap.size A ps) :
    Calls Tryz.prog 22 #[.slice A ps.length cap] w fun e w' =>
      e = .returned (.agg #[.int .i64 (totalS ps).m, .int .i64 (totalS ps).a, .int .i64 (totalS ps).b, .int .i64 (totalS ps).c]) ∧ Below w.heap.size w w' := by
  go_enter Tryz.func22, Tryz.ntmps22
  go_wp2_with fail
  go_loopg [7] (ps.length) (fun m i wr => ∃ k, k + m = ps.length ∧ i = .int .i64 (k : Nat) ∧ Blk wr w.heap.size 49 #[.int .i64 (totalS (ps.take k)).m, .int .i64 (totalS (ps.take k)).a, .int .i64 (totalS (ps.take k)).b, .int .i64 (totalS (ps.take k)).c] ∧ Below w.heap.size w wr)
  case atStart => exact ⟨0, by omega, rfl, by simpa [totalS, Wt.zero] using Blk.new w 49 _, (Below.refl _ _).alloc (Nat.le_refl _) _⟩
  case round =>
    obtain ⟨k, hk, rfl, hW, hB⟩ := hrel
    by_cases hlt : k < ps.length
    · have hp0 : ps[k]? = some ps[k] := List.getElem?_eq_getElem hlt
      obtain ⟨b, off, rfl, hb, c0, c1, c2, c3, c4, c5, c6⟩ := (hps.below hB) k _ hp0
      have HP := Lib.hid hp0
      have HK := Lib.hid hk
      clear hp0 hk
      go_wp2_with fail
      (with_reducible refine (add_any w.heap.size (totalS (ps.take k)) ps[k] (hok _ (List.getElem_mem _)) ((totalS_in ps hok k (by omega)).sm (by omega)) _ (hW.alloc _)).mono ?_)
      rintro e w2 ⟨rfl, hW2, hG2⟩
      have hB2 : Below w.heap.size w w2 := (hB.alloc hB.size _).grown hG2 (by have := hB.size; simp; omega) (fun k e => by cases e; exact Nat.le_refl _)
      rw [← totalS_snoc ps k hlt] at hW2
      go_wp2_with fail
      go_roundg (gk - 1)
      case measure => have := HK.out; omega
      case rel => exact ⟨k + 1, by have := HK.out; omega, by go_num, hW2, hB2⟩
    · obtain rfl : k = ps.length := by omega
      rw [List.take_length] at hW
      have d0 := hW.cell 0
      have d1 := hW.cell 1
      have d2 := hW.cell 2
      have d3 := hW.cell 3
      simp at d0 d1 d2 d3
      have f0 := hW.frozen 0
      have f1 := hW.frozen 1
      have f2 := hW.frozen 2
      have f3 := hW.frozen 3
      have HK := Lib.hid hk
      clear hk
      go_wp2_with fail
      refine bodyPost_ret (v := .agg #[.int .i64 (totalS ps).m, .int .i64 (totalS ps).a, .int .i64 (totalS ps).b, .int .i64 (totalS ps).c]) (by simp [results, Tryz.results22, go_sem, d0, d1, d2, d3]) rfl ?_
      refine ⟨rfl, ?_⟩
      exact (((hB.setCell (p := ⟨w.heap.size, 0, none⟩) (Nat.le_refl _) _).setCell (p := ⟨w.heap.size, 1, none⟩) (Nat.le_refl _) _).setCell (p := ⟨w.heap.size, 2, none⟩) (Nat.le_refl _) _).setCell (p := ⟨w.heap.size, 3, none⟩) (Nat.le_refl _) _

end Go.Proofs.YtacmiobhnfeflaaGreat
