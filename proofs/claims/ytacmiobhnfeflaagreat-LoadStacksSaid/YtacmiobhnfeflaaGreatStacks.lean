import Derived.Test.YtacmiobhnfeflaaGreatFalls
import Derived.Test.YtacmiobhnfeflaaGreatAsk
import Derived.Test.YtacmiobhnfeflaaGreatWithin
import Derived.Deep.DeepCutAuto
namespace Go.Proofs.YtacmiobhnfeflaaGreat
open Go.RowKit

theorem AskPost.in_ {R : List Nat → Prop} {L : Ld} {i : Int} {w w' : World} {e : Ending} (h : AskPost R L i w e w') (hOk : L.Ok) (hi : 0 ≤ i ∧ i < L.ps.length) :
    ∃ A cap l, e = .returned (.tuple #[.slice A l.length cap, .int .i64 0]) ∧ R l ∧ IntsAt w' A l ∧ Below w.heap.size w w' := by
  obtain ⟨v, c, he, hB, h | h | ⟨_, _, hc, l, hR, hO⟩⟩ := h
  · exact absurd hOk h.1
  · exact absurd hi h.2.1
  · obtain ⟨A, cap, rfl, hI⟩ := IntsAt.of_own hO
    exact ⟨A, cap, l, by rw [he, hc], hR, hI, hB⟩
theorem under_len (ps : List Pc) (i : Nat) : (underS ps i).length ≤ ps.length := by
  unfold underS
  have := List.length_filter_le (fun k => (bxAt ps i).rests (bxAt ps k)) (List.range ps.length)
  rwa [List.length_range] at this
theorem under_mem {ps : List Pc} {i k : Nat} (h : k ∈ underS ps i) : k < ps.length ∧ (bxAt ps i).rests (bxAt ps k) = true := by
  unfold underS at h
  have := List.mem_filter.1 h
  exact ⟨List.mem_range.1 this.1, this.2⟩
theorem IsOver.len {ps : List Pc} {i : Nat} {l : List Nat} (h : IsOver ps i l) (hi : i < ps.length) : l.length ≤ ps.length := by
  have := List.Nodup.length_le_of_subset (l₂ := List.range ps.length) h.2.1 (fun x hx => List.mem_range.2 (((h.2.2 x).1 hx).lt hi))
  simpa using this
/-- What rests on a piece is carried by it, with all that it carries. -/
theorem carries_more {ps : List Pc} {k x : Nat} (hk : k < ps.length) (hx : x ∈ underS ps k) {l m : List Nat} (hl : IsOver ps k l) (hm : IsOver ps x m) : withinS l m = true := by
  unfold withinS
  rw [List.all_eq_true]
  intro y hy
  have h1 := (hl.2.2 y).1 hy
  have h2 : Reach ps x k := .step .refl hk (under_mem hx).2
  simpa using (hm.2.2 y).2 (h2.trans h1)
theorem rests_lower {ps : List Pc} (hok : ∀ p ∈ ps, p.Ok) {k x : Nat} (hx : x ∈ underS ps k) : (ps[x]!).z < (ps[k]!).z := by
  obtain ⟨hxl, hr⟩ := under_mem hx
  unfold Bx.rests at hr
  rw [Bool.and_eq_true] at hr
  have h1 := of_decide_eq_true hr.1
  unfold bxAt Pc.box at h1
  dsimp only at h1
  have h2 := (getOk hok hxl).h1
  omega

/-- What the loads of that statement read. -/
def StkS (w0 : World) (b br o : Nat) (v0 v1 v2 v3 u : Value) (w' : World) : Prop :=
  Below w0.heap.size w0 w' ∧ w0.heap.size ≤ w'.heap.size ∧ w'.cell? ⟨b, 0, none⟩ = some v0 ∧ w'.cell? ⟨b, 1, none⟩ = some v1 ∧ w'.cell? ⟨b, 2, none⟩ = some v2 ∧ w'.cell? ⟨b, 3, none⟩ = some v3 ∧ w'.cell? ⟨br, o, none⟩ = some u
theorem StkS.keep {w0 W W' : World} {b br o : Nat} {v0 v1 v2 v3 u : Value} (h : StkS w0 b br o v0 v1 v2 v3 u W) (hB : Below W.heap.size W W') (hb : b < w0.heap.size) (hr : br < w0.heap.size) : StkS w0 b br o v0 v1 v2 v3 u W' := by
  obtain ⟨h1, h2, c0, c1, c2, c3, c4⟩ := h
  have hm := hB.mono h2
  exact ⟨h1.trans hm, Nat.le_trans h2 hB.size, (hm.cell (p := ⟨b, 0, none⟩) hb).trans c0, (hm.cell (p := ⟨b, 1, none⟩) hb).trans c1, (hm.cell (p := ⟨b, 2, none⟩) hb).trans c2, (hm.cell (p := ⟨b, 3, none⟩) hb).trans c3, (hm.cell (p := ⟨br, o, none⟩) hr).trans c4⟩

set_option maxRecDepth 100000 in
set_option maxHeartbeats 8000000 in
theorem stacks_any (hKnown : ∀ w, Calls Tryz.prog 7 #[] w fun e w' => e = .returned (.bool true) ∧ Below w.heap.size w w') (A E : Option Addr) (cap cap' : Nat) (L : Ld) (w : World) (hL : LdAt w w.heap.size A E L) :
    Calls Tryz.prog 3 #[.agg #[.string L.name, .slice A L.ps.length cap, .slice E L.es.length cap', .int .i64 L.fr]] w fun e w' => e = .returned (.bool true) ∧ Below w.heap.size w w' := by
  have HK := Lib.hid hKnown
  clear hKnown
  have hB0 : Below w.heap.size w (w.alloc (Obj.cells #[Value.string L.name, Value.slice A L.ps.length cap, Value.slice E L.es.length cap', Value.int .i64 L.fr] 25)) := (Below.refl _ _).alloc (Nat.le_refl _) _
  have hN := Blk.new w 25 #[Value.string L.name, Value.slice A L.ps.length cap, Value.slice E L.es.length cap', Value.int .i64 L.fr]
  go_enter Tryz.func3, Tryz.ntmps3
  go_wp2_with fail
  generalize w.alloc _ = w0 at *
  (with_reducible refine (great_any A E cap cap' L _ rfl _).mono ?_)
  rintro e w1 ⟨rfl, hb1⟩
  have hB1 := hB0.trans (hb1.mono hB0.size)
  have hN1 := hN.below hb1 hN.lt
  clear hB0 hN hb1
  by_cases hg : L.ps.length ≤ 40 ∧ L.es.length ≤ 40 ∧ L.name.size ≤ 100
  · rw [decide_eq_true hg]
    obtain ⟨hl1, hl2, hl3⟩ := hg
    have c0 : w1.cell? ⟨w.heap.size, 0, none⟩ = some (Value.string L.name) := by simpa using hN1.cell 0
    have c1 : w1.cell? ⟨w.heap.size, 1, none⟩ = some (Value.slice A L.ps.length cap) := by simpa using hN1.cell 1
    have c2 : w1.cell? ⟨w.heap.size, 2, none⟩ = some (Value.slice E L.es.length cap') := by simpa using hN1.cell 2
    have c3 : w1.cell? ⟨w.heap.size, 3, none⟩ = some (Value.int .i64 L.fr) := by simpa using hN1.cell 3
    go_wp2_with fail
    (with_reducible refine (check_any A E cap cap' L _ ((hL.below hB1).more hB1.size)).mono ?_)
    rintro e w2 ⟨n, rfl, hC, hb2⟩
    have hB2 := hB1.trans (hb2.mono hB1.size)
    have hN2 := hN1.below hb2 hN1.lt
    clear hb2 c0 c1 c2 c3 hN1 hB1
    by_cases hn : n = 0
    · subst hn
      have HOK := Lib.hid (hC.zero.1 rfl)
      have HPS := Lib.hid HOK.out.ps
      have hlen := HOK.out.lens
      unfold Ld.lens at hlen
      clear hC
      have c0 : w2.cell? ⟨w.heap.size, 0, none⟩ = some (Value.string L.name) := by simpa using hN2.cell 0
      have c1 : w2.cell? ⟨w.heap.size, 1, none⟩ = some (Value.slice A L.ps.length cap) := by simpa using hN2.cell 1
      have c2 : w2.cell? ⟨w.heap.size, 2, none⟩ = some (Value.slice E L.es.length cap') := by simpa using hN2.cell 2
      have c3 : w2.cell? ⟨w.heap.size, 3, none⟩ = some (Value.int .i64 L.fr) := by simpa using hN2.cell 3
      go_wp2_with fail
      (with_reducible refine (falls_any A E cap cap' L _ ((hL.below hB2).more hB2.size)).mono ?_)
      rintro e w3 ⟨n, c, rfl, hb3, hF⟩
      have hB3 := hB2.trans (hb3.mono hB2.size)
      have hN3 := hN2.below hb3 hN2.lt
      clear hb3 c0 c1 c2 c3 hN2 hB2
      have hF' : FallsR L.ps n c := by
        rcases hF with h | h
        · exact absurd HOK.out h.1
        · exact h.2
      have HF := Lib.hid hF'
      clear hF hF'
      have HC5 : RowKit.Hid (c = 5 → ∀ j, j < L.ps.length → L.ps[j]!.z = 0 ∨ underS L.ps j ≠ []) := by
        intro h5 j hj
        rcases HF.out with ⟨_, _, h⟩ | ⟨k, _, h0, _⟩
        · exact (h j hj).2 rfl
        · rw [h5] at h0; cases h0
      have c1 : w3.cell? ⟨w.heap.size, 1, none⟩ = some (Value.slice A L.ps.length cap) := by simpa using hN3.cell 1
      have d32 : decide (32 < (L.ps.length : Int)) = false := by simp; omega
      go_upto_region 4 with (fail)
      go_cut [48] from 26 to 47 (fun s W => s = .bool false ∧ W = w3)
      case first =>
        rcases HF.out with ⟨hn0, hc5, _⟩ | ⟨k, hnk, hc0, hk, _⟩
        · subst hn0 hc5
          go_wp2_with fail
          go_meet
          exact ⟨rfl, rfl⟩
        · subst hnk hc0
          have dk : decide (L.ps.length ≤ k) = false := by simp; omega
          go_wp2_with fail
          go_meet
          exact ⟨rfl, rfl⟩
      case rest =>
        obtain ⟨rfl, rfl⟩ := hcut
        clear c1 d32
        go_wp2_with fail
        go_loopg [5] (L.ps.length) (fun m i wr => ∃ k, RowKit.Hid (k + m = L.ps.length) ∧ i = .int .i64 (k : Nat) ∧ Blk wr w.heap.size 25 #[Value.string L.name, Value.slice A L.ps.length cap, Value.slice E L.es.length cap', Value.int .i64 L.fr] ∧ Below w.heap.size w wr)
        case atStart => exact ⟨0, by show 0 + _ = _; omega, rfl, hN3, hB3⟩
        case round =>
          obtain ⟨k, HKK, rfl, hN, hB⟩ := hrel
          by_cases hlt : k < L.ps.length
          · obtain ⟨p, hp⟩ : ∃ p, L.ps[k]? = some p := ⟨_, List.getElem?_eq_getElem hlt⟩
            have hp! : RowKit.Hid (L.ps[k]! = p) := by show L.ps[k]! = p; rw [getElem!_pos L.ps k hlt]; rw [List.getElem?_eq_getElem hlt] at hp; exact Option.some.inj hp
            have HPI := Lib.hid hp
            clear hp hN3 hB3
            have c0 : wr.cell? ⟨w.heap.size, 0, none⟩ = some (Value.string L.name) := by simpa using hN.cell 0
            have c1 : wr.cell? ⟨w.heap.size, 1, none⟩ = some (Value.slice A L.ps.length cap) := by simpa using hN.cell 1
            have c2 : wr.cell? ⟨w.heap.size, 2, none⟩ = some (Value.slice E L.es.length cap') := by simpa using hN.cell 2
            have c3 : wr.cell? ⟨w.heap.size, 3, none⟩ = some (Value.int .i64 L.fr) := by simpa using hN.cell 3
            go_wp2_with fail
            (with_reducible refine (rests_ask A E cap cap' L k _ ((hL.below hB).more hB.size)).mono ?_)
            intro e w4 hR
            obtain ⟨Ar, capr, r, rfl, ⟨k', hk', hr⟩, hIr, hb4⟩ := hR.in_ HOK.out ⟨by omega, by omega⟩
            obtain rfl : k = k' := by omega
            have HR := Lib.hid hr
            have hrl : r.length ≤ 40 := by rw [hr]; exact Nat.le_trans (under_len _ _) hl1
            have hB4 := hB.trans (hb4.mono hB.size)
            have hN4 := hN.below hb4 hN.lt
            clear hR hk' hr hb4 c0 c1 c2 c3 hN hB
            have c0 : w4.cell? ⟨w.heap.size, 0, none⟩ = some (Value.string L.name) := by simpa using hN4.cell 0
            have c1 : w4.cell? ⟨w.heap.size, 1, none⟩ = some (Value.slice A L.ps.length cap) := by simpa using hN4.cell 1
            have c2 : w4.cell? ⟨w.heap.size, 2, none⟩ = some (Value.slice E L.es.length cap') := by simpa using hN4.cell 2
            have c3 : w4.cell? ⟨w.heap.size, 3, none⟩ = some (Value.int .i64 L.fr) := by simpa using hN4.cell 3
            go_wp2_with fail
            (with_reducible refine (carries_ask A E cap cap' L k _ ((hL.below hB4).more hB4.size)).mono ?_)
            intro e w5 hR
            obtain ⟨Al, capl, l, rfl, ⟨k', hk', hIO⟩, hIl, hb5⟩ := hR.in_ HOK.out ⟨by omega, by omega⟩
            obtain rfl : k = k' := by omega
            have HIO := Lib.hid hIO
            have hll : l.length ≤ 40 := Nat.le_trans (hIO.len hlt) hl1
            have hB5 := hB4.trans (hb5.mono hB4.size)
            have hN5 := hN4.below hb5 hN4.lt
            have hIr5 := hIr.below hb5
            clear hR hk' hIO hb5 c0 c1 c2 c3 hN4 hB4 hIr
            have c1 : w5.cell? ⟨w.heap.size, 1, none⟩ = some (Value.slice A L.ps.length cap) := by simpa using hN5.cell 1
            obtain ⟨bp, offp, hA, hbp, d0, d1, d2, d3, d4, d5, d6⟩ := (hL.ps.below hB5) k p HPI.out
            have HA := Lib.hid hA
            clear d0 d1 d3 d4 d5 d6 hA
            obtain ⟨go, hgo⟩ : ∃ go, go = gk - 1 := ⟨_, rfl⟩
            have HKO : RowKit.Hid (k + 1 + go = L.ps.length) := by show k + 1 + go = L.ps.length; have := HKK.out; omega
            have hgl : go < gk := by have := HKK.out; omega
            clear hgo
            go_upto_region 11 with (fail)
            go_cut [91] from 68 to 90 (fun s W => s = .bool false ∧ W = w5)
            case first =>
              have hA := HA.out
              subst hA
              by_cases hz : 0 < p.z
              · by_cases hu : r.length = 0
                · have hc5 : (c == 5) = false := by
                    have h1 : c ≠ 5 := by
                      intro e
                      rcases HC5.out e k hlt with h | h
                      · rw [hp!.out] at h; omega
                      · rw [← HR.out] at h; exact h (List.eq_nil_of_length_eq_zero hu)
                    simp [h1]
                  obtain rfl := List.eq_nil_of_length_eq_zero hu
                  simp only [List.length_nil]
                  go_wp2_with fail
                  go_meet
                  exact ⟨rfl, rfl⟩
                · have hu' : ((r.length : Int) == 0) = false := by simp; intro e; exact hu (by rw [e]; rfl)
                  go_wp2_with fail
                  go_meet
                  exact ⟨rfl, rfl⟩
              · have hz' : decide (0 < p.z) = false := by simp; omega
                go_wp2_with fail
                go_meet
                exact ⟨rfl, rfl⟩
            case rest =>
              obtain ⟨rfl, rfl⟩ := hcut
              clear c1 d2
              go_wp2_with fail
              go_loopg [10] (r.length) (fun m i wr => ∃ n, RowKit.Hid (n + m = r.length) ∧ i = .int .i64 (n : Nat) ∧ Blk wr w.heap.size 25 #[Value.string L.name, Value.slice A L.ps.length cap, Value.slice E L.es.length cap', Value.int .i64 L.fr] ∧ IntsAt wr Ar r ∧ IntsAt wr Al l ∧ Below w.heap.size w wr)
              case atStart => exact ⟨0, by show 0 + _ = _; omega, rfl, hN5, hIr5, hIl, hB5⟩
              case round =>
                obtain ⟨n, HN, rfl, hN, hIr, hIl, hB⟩ := hrel
                by_cases hlt2 : n < r.length
                · obtain ⟨x, hx⟩ : ∃ x, r[n]? = some x := ⟨_, List.getElem?_eq_getElem hlt2⟩
                  have hxu : x ∈ underS L.ps k := by have := List.mem_of_getElem? hx; rwa [HR.out] at this
                  have hxl := (under_mem hxu).1
                  have hlow := rests_lower HPS.out hxu
                  obtain ⟨q, hq⟩ : ∃ q, L.ps[x]? = some q := ⟨_, List.getElem?_eq_getElem hxl⟩
                  have hq! : L.ps[x]! = q := by rw [getElem!_pos L.ps x hxl]; rw [List.getElem?_eq_getElem hxl] at hq; exact Option.some.inj hq
                  rw [hq!, hp!.out] at hlow
                  have HXU := Lib.hid hxu
                  have HX := Lib.hid hx
                  have HQ := Lib.hid hq
                  obtain ⟨br, offr, rfl, hbr, rc⟩ := hIr n x hx
                  clear hx hq hxu hq! hN5 hIr5 hB5
                  have c0 : wr.cell? ⟨w.heap.size, 0, none⟩ = some (Value.string L.name) := by simpa using hN.cell 0
                  have c1 : wr.cell? ⟨w.heap.size, 1, none⟩ = some (Value.slice A L.ps.length cap) := by simpa using hN.cell 1
                  have c2 : wr.cell? ⟨w.heap.size, 2, none⟩ = some (Value.slice E L.es.length cap') := by simpa using hN.cell 2
                  have c3 : wr.cell? ⟨w.heap.size, 3, none⟩ = some (Value.int .i64 L.fr) := by simpa using hN.cell 3
                  have hS0 : StkS wr w.heap.size br (offr + n) (.string L.name) (.slice A L.ps.length cap) (.slice E L.es.length cap') (.int .i64 L.fr) (.int .i64 (x : Int)) wr.drew := ⟨below_drewN (Below.refl _ _) 1, Nat.le_refl _, c0, c1, c2, c3, rc⟩
                  have hblt := hN.lt
                  have hBr0 : Below wr.heap.size wr wr.drew := below_drewN (Below.refl _ _) 1
                  have hB6 : RowKit.Hid (∀ W, Below wr.heap.size wr W → Below w.heap.size w W) := fun W hW => hB.trans (hW.mono hB.size)
                  have hL6 : RowKit.Hid (∀ W, Below wr.heap.size wr W → LdAt W W.heap.size A E L) := fun W hW => (hL.below (hB.trans (hW.mono hB.size))).more (Nat.le_trans hB.size hW.size)
                  go_wp2_with fail
                  go_region_held3 (fun w' => Below wr.heap.size wr w' ∧ wr.heap.size ≤ w'.heap.size ∧ w'.cell? ⟨w.heap.size, 0, none⟩ = some (.string L.name) ∧ w'.cell? ⟨w.heap.size, 1, none⟩ = some (.slice A L.ps.length cap) ∧ w'.cell? ⟨w.heap.size, 2, none⟩ = some (.slice E L.es.length cap') ∧ w'.cell? ⟨w.heap.size, 3, none⟩ = some (.int .i64 L.fr) ∧ w'.cell? ⟨br, offr + n, none⟩ = some (.int .i64 (x : Int)))
                    (first | exact hS0 | exact hS0.keep hb7 hblt hbr)
                    (first | (go_at_call 10; (with_reducible refine (carries_ask A E cap cap' L x _ (hL6.out wr.drew hBr0)).mono ?_); intro e w7 hR; obtain ⟨Am, capm, m, rfl, ⟨x', hx', hIM⟩, hIm, hb7⟩ := hR.in_ HOK.out ⟨by omega, by omega⟩))
                  obtain rfl : x = x' := by omega
                  have hBd : Below w.heap.size w wr.drew := below_drewN hB 1
                  have hNd := hN.drew
                  have hIrd : IntsAt wr.drew (some ⟨br, offr, none⟩) r := hIr
                  have hIld : IntsAt wr.drew Al l := hIl
                  clear c0 c1 c2 c3 rc hN hIr hIl hB hS0
                  have hml : m.length ≤ 40 := Nat.le_trans (hIM.len hxl) hl1
                  have hwt : withinS l m = true := carries_more hlt HXU.out HIO.out hIM
                  have hB7 := hBd.trans (hb7.mono hBd.size)
                  have hN7 := hNd.below hb7 hNd.lt
                  have hIr7 := hIrd.below hb7
                  have hIl7 := hIld.below hb7
                  have HW : RowKit.Hid (∀ j, Calls Tryz.prog 11 #[.slice Al l.length capl, .slice Am m.length capm] (w7.drewN j) fun e w'' => e = .returned (.bool true) ∧ ∃ i, w'' = w7.drewN i) := by
                    intro j
                    refine (within_ints Al Am capl capm l m (by omega) (by omega) (w7.drewN j) hIl7 hIm).mono ?_
                    rintro e w'' ⟨rfl, i, rfl⟩
                    exact ⟨by rw [hwt], j + i, World.drewN_drewN _ _ _⟩
                  clear hR hx' hIM hb7 hBd hNd hIrd hIld hwt
                  obtain ⟨br', offr', hAr, _, rc⟩ := hIr7 n x HX.out
                  injection hAr with e1
                  injection e1 with e1 e2
                  subst e1; subst e2
                  have c1 : w7.cell? ⟨w.heap.size, 1, none⟩ = some (Value.slice A L.ps.length cap) := by simpa using hN7.cell 1
                  obtain ⟨bp', offp', hA, _, d0, d1, d2, d3, d4, d5, d6⟩ := (hL.ps.below hB7) k p HPI.out
                  obtain ⟨bq, offq, hA2, _, q0, q1, q2, q3, q4, q5, q6⟩ := (hL.ps.below hB7) x q HQ.out
                  have hAA := HA.out
                  subst hA
                  injection hA2 with e1
                  injection e1 with e1 e2
                  subst e1; subst e2
                  clear d0 d1 d3 d4 d5 d6 q0 q1 q3 q4 q5 q6 hAA HA
                  have g1 : decide (L.ps.length ≤ x) = false := by simp; omega
                  have g2 : decide (p.z ≤ q.z) = false := by simp; omega
                  go_wp2_with fail
                  go_quiet ((go_at_call 11; exact HW.out _))
                  go_wp2_with fail
                  go_roundg (gk - 1)
                  case measure => have := HN.out; omega
                  case rel => exact ⟨n + 1, by show n + 1 + (gk - 1) = _; have := HN.out; omega, by go_num, hN7.drewN _, hIr7, hIl7, below_drewN hB7 _⟩
                · obtain rfl : n = r.length := by have := HN.out; omega
                  go_wp2_with fail
                  go_roundg go
                  case measure => omega
                  case rel => exact ⟨k + 1, HKO, by go_num, hN, hB⟩
          · obtain rfl : k = L.ps.length := by have := HKK.out; omega
            have c1 : wr.cell? ⟨w.heap.size, 1, none⟩ = some (Value.slice A L.ps.length cap) := by simpa using hN.cell 1
            go_wp2_with fail
            (with_reducible refine (HK.out _).mono ?_)
            rintro e w4 ⟨rfl, hb4⟩
            go_wp2_with fail
            go_ret
            exact ⟨rfl, hB.trans (hb4.mono hB.size)⟩
    · have hd : (n != 0) = true := by simp [hn]
      clear hC
      go_wp2_with fail
      (with_reducible refine (HK.out _).mono ?_)
      rintro e w3 ⟨rfl, hb3⟩
      go_wp2_with fail
      go_ret
      exact ⟨rfl, hB2.trans (hb3.mono hB2.size)⟩
  · rw [decide_eq_false hg]
    clear hg
    go_wp2_with fail
    (with_reducible refine (HK.out _).mono ?_)
    rintro e w3 ⟨rfl, hb3⟩
    go_wp2_with fail
    go_ret
    exact ⟨rfl, hB1.trans (hb3.mono hB1.size)⟩

end Go.Proofs.YtacmiobhnfeflaaGreat
