import Derived.Test.YtacmiobhnfeflaaGreatPtLib
import Derived.Laws.StructEq
import Derived.Lib.SlicesCompact
namespace Go.Proofs.YtacmiobhnfeflaaGreat
open Go.RowKit Go.Sort Go.Lib

theorem eqPtIn (a b c d : Int) (w : World) : (Op.equalIn 10000 57 (.agg #[.int .i64 a, .int .i64 b]) (.agg #[.int .i64 c, .int .i64 d])).run Tryz.prog w = .ok (decide (((a, b) : Pt) = (c, d))) w := by
  have u3 := Tryz.underlying2
  have a3 := Tryz.isAgg2
  have z3 := Tryz.sizeOf2
  have hS : Tryz.prog.underlying 57 = some (.struct (Tryz.prog.fieldsOf 57)) := by kernel_rfl
  have hp : Tryz.prog.stoodInHeld 57 = false := by kernel_rfl
  rw [show (10000 : Nat) = 9999 + 1 from rfl, run_equalIn_agg w 9999 57 _ _ hS hp]
  simp only [Program.fieldsOf, Tryz.underlying57]
  go_simp
  by_cases h1 : a = c <;> by_cases h2 : b = d <;> simp [h1, h2]
theorem eqPt (p q : Pt) (w : World) : (binOp .eql 57 (.agg #[.int .i64 p.1, .int .i64 p.2]) (.agg #[.int .i64 q.1, .int .i64 q.2])).run Tryz.prog w = .ok (.bool (decide (p = q))) w := by
  rw [run_eql_struct, eqPtIn]; rfl
theorem neqPt (p q : Pt) (w : World) : (binOp .neq 57 (.agg #[.int .i64 p.1, .int .i64 p.2]) (.agg #[.int .i64 q.1, .int .i64 q.2])).run Tryz.prog w = .ok (.bool (!decide (p = q))) w := by
  rw [run_neq_struct, eqPtIn]; rfl
theorem gdPt (op : BinOp) (x y : Operand) (a b c d : Int) (w : World) : (eqGuard op 57 x y (.agg #[.int .i64 a, .int .i64 b]) (.agg #[.int .i64 c, .int .i64 d])).run Tryz.prog w = .ok () w :=
  run_eqGuard_agg w op _ x y _ _ (by kernel_rfl)

theorem OwnP.free {w : World} {base g cap : Nat} {ps : List Pt} (h : OwnP w base g cap ps) (j : Nat) : w.frozen? ⟨g, j, none⟩ = false := by
  obtain ⟨cur, _, hh, _⟩ := h.parts
  simp [World.frozen?, hh]

/-- Two stores into an own slice: a point is written. -/
theorem OwnP.set {w : World} {base g cap : Nat} {ps : List Pt} (h : OwnP w base g cap ps) (i : Nat) (hi : i < ps.length) (p : Pt) :
    OwnP (w.setCells g (i * 2) [.int .i64 p.1, .int .i64 p.2]) base g cap (ps.set i p) ∧ w.grownBy (w.setCells g (i * 2) [.int .i64 p.1, .int .i64 p.2]) (some g) := by
  have hs := setCells_putRow w g 0 (encPt p) (i * 2) (flatK encPt 2 ps.toArray) (by rw [size_flatK]; simp [encPt]; omega)
  have e0 : putRow id w g 0 (flatK encPt 2 ps.toArray) = w := putRow_self id w g 0 _ h.holds
  have e1 : setMany (flatK encPt 2 ps.toArray) (i * 2) (encPt p) = flatK encPt 2 (ps.set i p).toArray := by
    refine ext_get! (by simp) fun t ht => ?_
    have ht' : t < ps.length * 2 := by simpa using ht
    rw [get_setMany _ _ _ t (by simpa using ht'), get_flatK _ _ _ t (by simpa using ht'), get_flatK _ _ _ t (by simpa using ht')]
    have h2 : t / 2 < ps.length := by omega
    by_cases c : i * 2 ≤ t ∧ t < i * 2 + 2
    · have e : t / 2 = i := by omega
      have e' : t - i * 2 = t % 2 := by omega
      rw [if_pos (by rw [encPt_len]; exact c), e', e]
      simp [hi]
    · have e : t / 2 ≠ i := by omega
      rw [if_neg (by rw [encPt_len]; exact c)]
      simp [List.getElem?_set, Ne.symm e]
  rw [e0, Nat.zero_add, e1] at hs
  have := h.put (qs := ps.set i p) (by simp) 0 #[]
  rw [grow_empty] at this
  show OwnP (w.setCells g (i * 2) (encPt p)) base g cap (ps.set i p) ∧ w.grownBy (w.setCells g (i * 2) (encPt p)) (some g)
  rw [hs]
  exact this

/-- clear, at points. -/
theorem run_clear_pts (w : World) (ty : TypeId) (b o n c : Nat) (hn : 0 < n)
    (hc : ∀ j, j < n * 2 → (w.cell? ⟨b, o + j, none⟩).isSome = true) (hf : ∀ j, j < n * 2 → w.frozen? ⟨b, o + j, none⟩ = false) :
    (Builtin.clear_ #[77] ty #[.slice (some ⟨b, o, none⟩) n c]).run Tryz.prog w = .ok (.tuple #[]) (w.setCells b o (List.replicate (n * 2) (.int .i64 0))) := by
  have hz : ∀ w, (zeroValue 57).run Tryz.prog w = .ok (.agg #[.int .i64 0, .int .i64 0]) w := Tryz.zeroValue57
  have hzc : (Builtin.zeroCells (Value.agg #[.int .i64 0, .int .i64 0]).cells n).toList = List.replicate (n * 2) (.int .i64 0) := by
    apply List.ext_getElem
    · simp [Builtin.zeroCells, Value.cells]
    · intro i h1 h2
      simp [Builtin.zeroCells, Value.cells]
      rcases Nat.mod_two_eq_zero_or_one i with h | h <;> simp [h]
  have hst := run_storeCells_cells (P := Tryz.prog) b o (List.replicate (n * 2) (.int .i64 0)) 0 w (by simpa using hc) (by simpa using hf) (by intro v hv'; rw [List.eq_of_mem_replicate hv']; rfl)
  simp only [Nat.add_zero] at hst
  obtain ⟨m, rfl⟩ : ∃ m, n = m + 1 := ⟨n - 1, by omega⟩
  simp [Builtin.clear_, run_underlying Tryz.underlying77, hz, hzc, hst]


/-- What is left of points when runs are made one. -/
def compP (ps : List Pt) : List Pt := compact ps
theorem getE {ps : List Pt} {i : Nat} (h : i < ps.length) : ps[i]? = some ps.toArray[i]! := by simp [h]

/-- An own slice, turned since w. -/
structure OwnT (w wr : World) (base g cap : Nat) (ps : List Pt) : Prop where
  own : OwnP wr base g cap ps
  grown : w.grownBy wr (some g)
theorem OwnT.start {w : World} {base g cap : Nat} {ps : List Pt} (h : OwnP w base g cap ps) : OwnT w w base g cap ps := ⟨h, rfl, rfl, rfl, Nat.le_refl _, fun _ _ _ => rfl⟩
theorem OwnT.drew {w wr : World} {base g cap : Nat} {ps : List Pt} (h : OwnT w wr base g cap ps) : OwnT w wr.drew base g cap ps := ⟨h.own.drew, h.grown.os, h.grown.tape, h.grown.output, h.grown.size, h.grown.block⟩
theorem OwnT.drewN {w wr : World} {base g cap : Nat} {ps : List Pt} (h : OwnT w wr base g cap ps) (q : Nat) : OwnT w (wr.drewN q) base g cap ps := ⟨h.own.of_block rfl, h.grown.os, h.grown.tape, h.grown.output, h.grown.size, h.grown.block⟩
theorem grownBy_trans {w w1 w2 : World} {r : Option Nat} (h1 : w.grownBy w1 r) (h2 : w1.grownBy w2 r) : w.grownBy w2 r :=
  ⟨h2.os.trans h1.os, h2.tape.trans h1.tape, h2.output.trans h1.output, Nat.le_trans h1.size h2.size, fun k hk hne => (h2.block k (Nat.lt_of_lt_of_le hk h1.size) hne).trans (h1.block k hk hne)⟩
theorem OwnT.set {w wr : World} {base g cap : Nat} {ps : List Pt} (h : OwnT w wr base g cap ps) (i : Nat) (hi : i < ps.length) (p : Pt) : OwnT w (wr.setCells g (i * 2) [.int .i64 p.1, .int .i64 p.2]) base g cap (ps.set i p) :=
  ⟨(h.own.set i hi p).1, grownBy_trans h.grown (h.own.set i hi p).2⟩

theorem OwnT.zero {w : World} {base g cap : Nat} (m : Nat) : ∀ (kk : Nat) (wr : World) (dk : List Pt), OwnT w wr base g cap dk → dk.length = kk + m →
    ∃ dk', OwnT w (wr.setCells g (kk * 2) (List.replicate (m * 2) (.int .i64 0))) base g cap dk' ∧ dk'.length = dk.length ∧ dk'.take kk = dk.take kk := by
  induction m with
  | zero => exact fun kk wr dk h hl => ⟨dk, h, rfl, rfl⟩
  | succ m ih =>
    intro kk wr dk h hl
    obtain ⟨dk', h1, h2, h3⟩ := ih (kk + 1) _ _ (h.set kk (by omega) (0, 0)) (by simp; omega)
    refine ⟨dk', ?_, by simpa using h2, ?_⟩
    · rw [show (kk + 1) * 2 = kk * 2 + 1 + 1 by omega] at h1
      rw [show (m + 1) * 2 = m * 2 + 1 + 1 by omega, List.replicate_succ, List.replicate_succ]
      exact h1
    · have := congrArg (List.take kk) h3
      rw [List.take_take, List.take_take, Nat.min_eq_left (by omega), List.take_set_of_le (by omega)] at this
      exact this

set_option maxHeartbeats 8000000 in
set_option maxRecDepth 1000000 in
theorem compact_any {base g cap : Nat} (ps : List Pt) (hn : ps.length ≤ 1000000) (w : World) (h : OwnP w base g cap ps) :
    Calls Tryz.prog 85 #[.slice (some ⟨g, 0, none⟩) ps.length cap] w fun e w' =>
      e = .returned (.slice (some ⟨g, 0, none⟩) (compP ps).length cap) ∧ OwnP w' base g cap (compP ps) ∧ w.grownBy w' (some g) := by
  have EQ := eqPt
  have NEQ := neqPt
  have GD := gdPt
  have hcap := h.len
  have same : ∀ w', OwnT w w' base g cap ps → (∀ j, j < ps.length → keeps ps.toArray j = true) → ps.length = (compP ps).length ∧ OwnP w' base g cap (compP ps) ∧ w.grownBy w' (some g) := by
    intro w' hw' hall
    have e : compP ps = ps := compact_all ps hall
    rw [e]
    exact ⟨rfl, hw'.own, hw'.grown⟩
  have HS := Lib.hid same
  clear same
  by_cases h2 : ps.length < 2
  · go_enter Tryz.func85, Tryz.ntmps85
    go_wp2
    go_ret
    obtain ⟨e1, e2⟩ := HS.out w (.start h) (fun j hj => keeps_lt_one _ j (by omega))
    exact ⟨by rw [← e1]; rfl, e2⟩
  · go_enter Tryz.func85, Tryz.ntmps85
    go_wp2
    go_loopg [3] ps.length (fun gg s3 wr => ∃ k : Nat, 1 ≤ k ∧ k ≤ ps.length ∧ ps.length - k ≤ gg ∧ s3 = .int .i64 k ∧ OwnT w wr base g cap ps ∧ RowKit.Hid (∀ j, j < k → keeps ps.toArray j = true))
    case atStart => exact ⟨1, Nat.le_refl _, by omega, by omega, rfl, .start h, keeps_lt_one _⟩
    case round =>
      obtain ⟨k, hk1, hk, hg, rfl, hT, hall⟩ := hrel
      by_cases hlt : k < ps.length
      · have hx := getE hlt
        have hy := getE (show k - 1 < ps.length by omega)
        obtain ⟨k', rfl⟩ : ∃ k', k = k' + 1 := ⟨k - 1, by omega⟩
        rw [Nat.add_sub_cancel] at hy
        generalize hxx : ps.toArray[k' + 1]! = x at hx
        generalize hyy : ps.toArray[k']! = y at hy
        have B := Lib.hid (And.intro hxx hyy)
        clear hxx hyy
        have c0 := hT.own.x hx
        have c1 := hT.own.y hx
        have c2 := hT.own.x hy
        have c3 := hT.own.y hy
        have K := Lib.hid (And.intro hx hy)
        clear hx hy
        have hk0 : (0 : Int) ≤ (k' : Int) + 1 := by omega
        by_cases hdup : x = y
        · go_wp2_with fail
          go_quiet (fail)
          go_wp2_with fail
          clear c0 c1 c2 c3
          go_loopg [3, 5] ps.length (fun gg s3 s5 wr => ∃ (kk k2 : Nat) (dk : List Pt), s3 = .int .i64 kk ∧ s5 = .int .i64 ((k2 : Int) + 1) ∧ RowKit.Hid (k' + 1 + (k2 + 1) ≤ ps.length ∧ ps.length - (k' + 1 + (k2 + 1)) ≤ gg) ∧ OwnT w wr base g cap dk ∧ RowKit.Hid (CompInv ps.toArray (k' + 1 + (k2 + 1)) kk dk.toArray))
          case atStart =>
            refine ⟨k' + 1, 0, ps, by go_num, rfl, ⟨by omega, by omega⟩, hT.drewN _, ?_⟩
            exact CompInv.start hall.out (keeps_neg (by omega) (by rw [Nat.add_sub_cancel, B.out.1, B.out.2, hdup]))
          case round =>
            obtain ⟨kk, k2, dk, rfl, rfl, hb2, hT2, hI⟩ := hrel
            have hkk := hI.out.lt
            have hds : dk.length = ps.length := by simpa using hI.out.size
            have hb2' := hb2.out
            by_cases hlt2 : k' + 1 + (k2 + 1) < ps.length
            · have hu := getE hlt2
              have hv := getE (show k' + 1 + k2 < ps.length by omega)
              have hu' : dk[k' + 1 + (k2 + 1)]? = some ps.toArray[k' + 1 + (k2 + 1)]! := by
                rw [getE (show k' + 1 + (k2 + 1) < dk.length by omega), hI.out.high _ (by omega)]
              have hv' : dk[k' + 1 + k2]? = some ps.toArray[k' + 1 + k2]! := by
                rw [getE (show k' + 1 + k2 < dk.length by omega), hI.out.high _ (by omega)]
              generalize huu : ps.toArray[k' + 1 + (k2 + 1)]! = u at hu hu'
              generalize hvv : ps.toArray[k' + 1 + k2]! = v at hv hv'
              have C := Lib.hid (And.intro huu hvv)
              clear huu hvv hu hv
              have c0 := hT2.own.x hu'
              have c1 := hT2.own.y hu'
              have c2 := hT2.own.x hv'
              have c3 := hT2.own.y hv'
              rw [show (k' + 1 + (k2 + 1)) * 2 = (k' + 1) * 2 + (k2 + 1) * 2 by omega] at c0 c1
              rw [show (k' + 1 + k2) * 2 = (k' + 1) * 2 + k2 * 2 by omega] at c2 c3
              have hz0 : (0 : Int) ≤ (k2 : Int) + 1 := by omega
              by_cases huv : u = v
              · go_wp2_with fail
                go_quiet (fail)
                go_wp2_with fail
                go_roundg (ps.length - (k' + 1 + (k2 + 1 + 1)))
                case measure => omega
                case rel =>
                  refine ⟨kk, k2 + 1, dk, by first | rfl | go_num, by go_num, ⟨by omega, Nat.le_refl _⟩, hT2.drewN _, ?_⟩
                  exact hI.out.skip (keeps_neg (by omega) (by
                    rw [C.out.1, huv, ← C.out.2]; rfl))
              · have ho := getE (show kk < dk.length by omega)
                generalize dk.toArray[kk]! = old at ho
                have d0 := hT2.own.x ho
                have d1 := hT2.own.y ho
                have f0 := hT2.own.free (kk * 2)
                have f1 := hT2.own.free (kk * 2 + 1)
                go_wp2_with fail
                go_quiet (fail)
                go_wp2_with fail
                go_roundg (ps.length - (k' + 1 + (k2 + 1 + 1)))
                case measure => omega
                case rel =>
                  refine ⟨kk + 1, k2 + 1, dk.set kk u, by go_num, by go_num, ⟨by omega, Nat.le_refl _⟩, ?_, ?_⟩
                  · exact (hT2.drewN _).set kk (by omega) u
                  · have := hI.out.keep (by simpa using hlt2) (keeps_pos (by
                      rw [C.out.1]
                      intro hh
                      exact huv (hh.trans C.out.2)))
                    rw [C.out.1] at this
                    rw [List.setIfInBounds_toArray] at this
                    exact this
            · have hend : k' + 1 + (k2 + 1) = ps.length := by omega
              have hcl : ∀ ty, (Builtin.clear_ #[77] ty #[.slice (some ⟨g, kk * 2, none⟩) (ps.length - kk) (cap - kk)]).run Tryz.prog wr = .ok (.tuple #[]) (wr.setCells g (kk * 2) (List.replicate ((ps.length - kk) * 2) (.int .i64 0))) :=
                fun ty => run_clear_pts wr ty g (kk * 2) _ _ (by omega) (fun j hj => by
                  rw [hT2.own.cell (kk * 2 + j) (flat dk)[kk * 2 + j]! (by
                    have := flat_len dk
                    rw [List.getElem?_eq_getElem (by omega), getElem!_pos _ _ (by omega)])]
                  rfl) (fun j hj => hT2.own.free _)
              go_wp2_with fail
              go_ret
              have hC := hI.out
              rw [hend] at hC
              have hlen : (compP ps).length = kk := by simpa [compP, compact] using hC.len
              obtain ⟨dk', h1, h2, h3⟩ := OwnT.zero (ps.length - kk) kk _ _ hT2 (by omega)
              have he : compP ps = dk'.take kk := by
                rw [h3]
                apply List.ext_getElem?
                intro j
                by_cases hj : j < kk
                · have := hC.low j hj
                  rw [List.getElem?_take_of_lt hj, getE (show j < dk.length by omega)]
                  exact this
                · rw [List.getElem?_take_eq_none (by omega), List.getElem?_eq_none (by omega)]
              refine ⟨?_, ?_, h1.grown⟩
              · rw [hlen]; rfl
              · rw [he]
                exact h1.own.take kk (by omega)
        · go_wp2_with fail
          go_quiet (fail)
          go_wp2_with fail
          go_roundg (ps.length - (k' + 1 + 1))
          case measure => omega
          case rel =>
            refine ⟨k' + 1 + 1, by omega, by omega, Nat.le_refl _, by go_num, hT.drewN _, fun j hj => ?_⟩
            by_cases e : j = k' + 1
            · subst e
              exact keeps_pos (by rw [Nat.add_sub_cancel, B.out.1, B.out.2]; exact hdup)
            · exact hall.out j (by omega)
      · have : k = ps.length := by omega
        subst this
        go_wp2
        go_ret
        obtain ⟨e1, e2⟩ := HS.out _ hT hall.out
        exact ⟨by rw [← e1]; rfl, e2⟩

end Go.Proofs.YtacmiobhnfeflaaGreat
