import Derived.Test.YtacmiobhnfeflaaGreatRows
import Derived.Test.YtacmiobhnfeflaaGreatCheck
import Derived.WalkKit
import Derived.ProofKit
import Derived.OpenShut
import Derived.ShutString
import Derived.ChangeOld
import Derived.Below
import Derived.Lib.SmallJoins
import Derived.Deep.Slices
import Derived.Deep.Fields
import Derived.ChangeSame
namespace Go.Proofs.YtacmiobhnfeflaaGreat
open Go.ChangeShapes Go.WideShapes Go.RowKit Go.Deep Go.Joins

theorem list_of {α : Type} {Q : Nat → α → Prop} : ∀ n, (∀ i, i < n → ∃ p, Q i p) → ∃ l : List α, l.length = n ∧ ∀ (i : Nat) p, l[i]? = some p → Q i p
  | 0, _ => ⟨[], rfl, fun i p h => by simp at h⟩
  | n + 1, h => by
    obtain ⟨l, hl, hq⟩ := list_of n fun i hi => h i (by omega)
    obtain ⟨p, hp⟩ := h n (by omega)
    refine ⟨l ++ [p], by simp [hl], fun i q hi => ?_⟩
    by_cases hin : i < n
    · rw [List.getElem?_append_left (by omega)] at hi
      exact hq i q hi
    · have hi' : i = n := by
        have := (List.getElem?_eq_some_iff.1 hi).1
        simp at this
        omega
      subst hi'
      rw [List.getElem?_append_right (by omega), hl, Nat.sub_self] at hi
      simp at hi
      subst hi
      exact hp
theorem cell_lt {w : World} {p : Addr} {v : Value} (h : w.cell? p = some v) : p.block < w.heap.size := by
  rcases Nat.lt_or_ge p.block w.heap.size with hlt | hge
  · exact hlt
  · unfold World.cell? at h
    rw [Array.getElem?_eq_none hge] at h
    simp at h

section
variable {H : Type} {enc : TypeId × Value → H} {P : Program} {w : World} {base : Nat} {spare : Nat → Bool} {held : Bool}
theorem open_slice_cells {t e : TypeId} {fs : Array Field} {fuel : Nat} {cs : List Value} {x : DataW H × List MemPlace} (ht : P.underlying t = some (.slice e)) (he : P.underlying e = some (.struct fs))
    (hone : oneCellFields P fs = true) (hC : P.cellsOf e = fs.size) (h : DataW.trod enc P w base spare held fuel t cs = some x) :
    cs = [.slice none 0 0] ∨
    ∃ (a : Addr) (len cap : Nat), cs = [.slice (some a) len cap] ∧
      ∀ i, i < len → ∀ (j : Nat) (f : Field), fs[j]? = some f → ∃ (n : Nat) (v : Value) (y : DataW H × List MemPlace), w.cell? (a.add (i * fs.size + j)) = some v ∧ DataW.trod enc P w base spare held n f.type [v] = some y := by
  rcases open_slice ht h with h0 | ⟨a, len, cap, m, n, D, Pl, hcs, hb, hl, hm, hmm, hx, hi⟩
  · exact .inl h0.1
  · refine .inr ⟨a, len, cap, hcs, fun i him => ?_⟩
    obtain ⟨cs', hc, ht'⟩ := hi i (by rw [hmm]; split <;> omega)
    rw [hC] at hc
    obtain ⟨ys, n', hn', hy, hlen, hyl, hf⟩ := DataW.trod_struct he ht'
    obtain ⟨_, hcl, hat⟩ := World.cells?_some hc
    intro j f hj
    obtain ⟨ho, hk⟩ := hone_of hone j f hj
    have hjl : j < fs.size := (Array.getElem?_eq_some_iff.1 hj).1
    have hcell := hat j hjl
    have hv : cs'[j]? = some (cs'[j]'(by omega)) := List.getElem?_eq_getElem (by omega)
    have h1 := hf j f hj
    rw [ho, hk] at h1
    have hone' : (cs'.drop j).take 1 = [cs'[j]'(by omega)] := by
      rw [List.drop_eq_getElem_cons (by omega)]
      rfl
    rw [hone'] at h1
    have hys : ys[j]? = some (ys[j]'(by omega)) := List.getElem?_eq_getElem (by omega)
    refine ⟨n', _, _, ?_, h1.trans hys⟩
    rw [← Go.Deep.add_add, hcell, hv]

/-- An int64 cell. -/
theorem cell_int {n : Nat} {a : Addr} {v : Value} {y : DataW H × List MemPlace} (hc : w.cell? a = some v) (h : DataW.trod enc Tryz.prog w base spare held n 2 [v] = some y) : ∃ x : Int, w.cell? a = some (.int .i64 x) := by
  obtain ⟨x, e0, _, _⟩ := DataW.trod_int Tryz.underlying2 h
  simp at e0
  subst e0
  exact ⟨x, hc⟩

theorem add_at {b off : Nat} (k : Nat) : (⟨b, off, none⟩ : Addr).add k = ⟨b, off + k, none⟩ := Addr.add_lit _ _ _

theorem open_pieces {n : Nat} {c : Value} {y : DataW H × List MemPlace} (h : DataW.trod enc Tryz.prog w base spare held n 22 [c] = some y) :
    ∃ A cap ps, c = .slice A (List.length (α := Pc) ps) cap ∧ PcsAt w w.heap.size A ps := by
  rcases open_slice_cells Tryz.underlying22 Tryz.underlying36 (by kernel_rfl) (by kernel_rfl) h with hc | ⟨a, len, cap, hc, hi⟩
  · simp at hc
    exact ⟨none, 0, [], hc, fun i p hp => by simp at hp⟩
  · simp at hc
    have hQ : ∀ i, i < len → ∃ p : Pc, ∃ b off, some a = some (⟨b, off, none⟩ : Addr) ∧ b < w.heap.size ∧
        w.cell? ⟨b, off + i * 7, none⟩ = some (.int .i64 p.x) ∧ w.cell? ⟨b, off + i * 7 + 1, none⟩ = some (.int .i64 p.y) ∧ w.cell? ⟨b, off + i * 7 + 2, none⟩ = some (.int .i64 p.z) ∧
        w.cell? ⟨b, off + i * 7 + 3, none⟩ = some (.int .i64 p.l) ∧ w.cell? ⟨b, off + i * 7 + 4, none⟩ = some (.int .i64 p.w) ∧ w.cell? ⟨b, off + i * 7 + 5, none⟩ = some (.int .i64 p.h) ∧
        w.cell? ⟨b, off + i * 7 + 6, none⟩ = some (.int .i64 p.m) := by
      intro i hil
      have g := hi i hil
      obtain ⟨b, off, spot⟩ := a
      obtain ⟨n0, v0, y0, k0, t0⟩ := g 0 _ rfl
      obtain ⟨n1, v1, y1, k1, t1⟩ := g 1 _ rfl
      obtain ⟨n2, v2, y2, k2, t2⟩ := g 2 _ rfl
      obtain ⟨n3, v3, y3, k3, t3⟩ := g 3 _ rfl
      obtain ⟨n4, v4, y4, k4, t4⟩ := g 4 _ rfl
      obtain ⟨n5, v5, y5, k5, t5⟩ := g 5 _ rfl
      obtain ⟨n6, v6, y6, k6, t6⟩ := g 6 _ rfl
      obtain ⟨x0, q0⟩ := cell_int k0 t0
      obtain ⟨x1, q1⟩ := cell_int k1 t1
      obtain ⟨x2, q2⟩ := cell_int k2 t2
      obtain ⟨x3, q3⟩ := cell_int k3 t3
      obtain ⟨x4, q4⟩ := cell_int k4 t4
      obtain ⟨x5, q5⟩ := cell_int k5 t5
      obtain ⟨x6, q6⟩ := cell_int k6 t6
      have hspot : spot = none := by
        obtain ⟨n9, v9, y9, k9, t9⟩ := hi 0 (by omega) 0 _ rfl
        simpa [Addr.add] using World.cell?_spot k9
      subst hspot
      have hlt := cell_lt q0
      rw [add_at] at q0 q1 q2 q3 q4 q5 q6 hlt
      exact ⟨⟨x0, x1, x2, x3, x4, x5, x6⟩, b, off, rfl, hlt, q0, q1, q2, q3, q4, q5, q6⟩
    obtain ⟨ps, hl, hp⟩ := list_of len hQ
    exact ⟨some a, cap, ps, by rw [hl]; exact hc, hp⟩
theorem open_eyes {n : Nat} {c : Value} {y : DataW H × List MemPlace} (h : DataW.trod enc Tryz.prog w base spare held n 23 [c] = some y) :
    ∃ A cap es, c = .slice A (List.length (α := Ey) es) cap ∧ EysAt w w.heap.size A es := by
  rcases open_slice_cells Tryz.underlying23 Tryz.underlying45 (by kernel_rfl) (by kernel_rfl) h with hc | ⟨a, len, cap, hc, hi⟩
  · simp at hc
    exact ⟨none, 0, [], hc, fun i p hp => by simp at hp⟩
  · simp at hc
    have hQ : ∀ i, i < len → ∃ p : Ey, ∃ b off, some a = some (⟨b, off, none⟩ : Addr) ∧ b < w.heap.size ∧
        w.cell? ⟨b, off + i * 4, none⟩ = some (.int .i64 p.x) ∧ w.cell? ⟨b, off + i * 4 + 1, none⟩ = some (.int .i64 p.y) ∧ w.cell? ⟨b, off + i * 4 + 2, none⟩ = some (.int .i64 p.z) ∧
        w.cell? ⟨b, off + i * 4 + 3, none⟩ = some (.int .i64 p.s) := by
      intro i hil
      have g := hi i hil
      obtain ⟨b, off, spot⟩ := a
      obtain ⟨n0, v0, y0, k0, t0⟩ := g 0 _ rfl
      obtain ⟨n1, v1, y1, k1, t1⟩ := g 1 _ rfl
      obtain ⟨n2, v2, y2, k2, t2⟩ := g 2 _ rfl
      obtain ⟨n3, v3, y3, k3, t3⟩ := g 3 _ rfl
      obtain ⟨x0, q0⟩ := cell_int k0 t0
      obtain ⟨x1, q1⟩ := cell_int k1 t1
      obtain ⟨x2, q2⟩ := cell_int k2 t2
      obtain ⟨x3, q3⟩ := cell_int k3 t3
      have hspot : spot = none := by
        obtain ⟨n9, v9, y9, k9, t9⟩ := hi 0 (by omega) 0 _ rfl
        simpa [Addr.add] using World.cell?_spot k9
      subst hspot
      have hlt := cell_lt q0
      rw [add_at] at q0 q1 q2 q3 hlt
      exact ⟨⟨x0, x1, x2, x3⟩, b, off, rfl, hlt, q0, q1, q2, q3⟩
    obtain ⟨es, hl, hp⟩ := list_of len hQ
    exact ⟨some a, cap, es, by rw [hl]; exact hc, hp⟩
end

set_option maxRecDepth 100000 in
theorem open_load {H : Type} {enc : TypeId × Value → H} {w : World} {base b0 : Nat} {spare : Nat → Bool} {held : Bool} {r : Reach} {v : Value} {d : DataW H} {p : List MemPlace}
    (hv : Value.okWide Tryz.prog w r b0 25 v) (h : DataW.Trod enc Tryz.prog w base spare held 25 v d p) :
    ∃ A E cap cap' L, v = .agg #[.string (Ld.name L), .slice A L.ps.length cap, .slice E L.es.length cap', .int .i64 L.fr] ∧ LdAt w w.heap.size A E L := by
  obtain ⟨c0, c1, c2, c3, y0, y1, y2, y3, m, rfl, rfl, rfl, hy0, hy1, hy2, hy3⟩ := open_agg4 Tryz.underlying25 (by kernel_rfl) (show Tryz.prog.cellsOf 25 = 4 by kernel_rfl) hv h
  obtain ⟨s, e0, _⟩ := DataW.trod_string Tryz.underlying9 hy0
  obtain ⟨A, cap, ps, rfl, hps⟩ := open_pieces hy1
  obtain ⟨E, cap', es, rfl, hes⟩ := open_eyes hy2
  obtain ⟨x, e3, _⟩ := DataW.trod_int Tryz.underlying2 hy3
  simp at e0 e3
  subst e0 e3
  exact ⟨A, E, cap, cap', ⟨s, ps, es, x⟩, rfl, hps, hes⟩

end Go.Proofs.YtacmiobhnfeflaaGreat
