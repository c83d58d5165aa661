import Derived.Test.YtacmiobhnfeflaaGreatCorners
namespace Go.Proofs.YtacmiobhnfeflaaGreat
open Go.RowKit Go.Sort Go.Shelf

/-- A slice of points, as a value. -/
structure PSl where
  A : Option Addr
  ps : List Pt
  cap : Nat
def PSl.v (l : PSl) : Value := .slice l.A l.ps.length l.cap
/-- Slices of points lie at A. -/
def LsAt (w : World) (B : Nat) (A : Option Addr) (ls : List PSl) : Prop :=
  ∀ (i : Nat) (l : PSl), ls[i]? = some l → ∃ b off, A = some ⟨b, off, none⟩ ∧ b < B ∧ w.cell? ⟨b, off + i, none⟩ = some (.slice l.A l.ps.length l.cap) ∧ PtsAt w B l.A l.ps
theorem LsAt.below {w w' : World} {B : Nat} {A : Option Addr} {ls : List PSl} (h : LsAt w B A ls) (hb : Below B w w') : LsAt w' B A ls := by
  intro i l hl
  obtain ⟨b, off, hA, hlt, hc, hp⟩ := h i l hl
  exact ⟨b, off, hA, hlt, (hb.cell (p := ⟨b, off + i, none⟩) hlt).trans hc, hp.below hb⟩
def cpMany (ls : List PSl) : Bool := ls.any fun l => decide (256 < l.ps.length)
def cpBad (ls : List PSl) : Bool := ls.any fun l => !l.ps.all ptOk
def cpErr (ls : List PSl) : Int := if cpMany ls then 6 else if cpBad ls then 2 else 0

theorem valid_is (A : Option Addr) (cap : Nat) (ps : List Pt) (hn : ps.length ≤ 1000000) (t : Bool) (ht : ps.all ptOk = t) (w : World) (hps : PtsAt w w.heap.size A ps) :
    Calls Tryz.prog 108 #[.slice A ps.length cap] w fun e w' => e = .returned (.bool t) ∧ Below w.heap.size w w' :=
  (valid_any A cap ps hn w hps).mono fun e w' ⟨he, hb⟩ => ⟨by rw [he, ht], hb⟩

set_option maxRecDepth 100000 in
set_option maxHeartbeats 2000000 in
theorem checkPoints_any (A : Option Addr) (cap : Nat) (ls : List PSl) (hn : ls.length ≤ 1000000) (w : World) (hls : LsAt w w.heap.size A ls) :
    Calls Tryz.prog 93 #[.slice A ls.length cap] w fun e w' => e = .returned (.int .i64 (cpErr ls)) ∧ Below w.heap.size w w' := by
  have hE : RowKit.Hid (cpErr ls = if cpMany ls then 6 else if cpBad ls then 2 else 0) := rfl
  go_enter Tryz.func93, Tryz.ntmps93
  go_wp2_with fail
  go_loopg [9] (ls.length) (fun m c wr => ∃ k, k + m = ls.length ∧ c = .int .i64 (k : Nat) ∧ RowKit.Hid (∀ j l, j < k → ls[j]? = some l → ¬ 256 < l.ps.length) ∧ Below w.heap.size w wr)
  case atStart => exact ⟨0, by omega, rfl, fun j p hj => absurd hj (by omega), Below.refl _ _⟩
  case round =>
    obtain ⟨k, hk, rfl, hok, hB⟩ := hrel
    have HK := Lib.hid hk
    clear hk
    by_cases hlt : k < ls.length
    · obtain ⟨l, hl⟩ : ∃ l, ls[k]? = some l := ⟨_, List.getElem?_eq_getElem hlt⟩
      obtain ⟨b, off, hA, hb, c0, _⟩ := (hls.below hB) k l hl
      have HL := Lib.hid hl
      clear hl
      subst hA
      by_cases h1 : 256 < l.ps.length
      · have hm : RowKit.Hid (cpErr ls = 6) := by
          show cpErr ls = 6
          rw [hE.out, if_pos]
          unfold cpMany
          rw [List.any_eq_true]
          exact ⟨l, List.mem_of_getElem? HL.out, by simp [h1]⟩
        go_wp2_with fail
        go_ret
        exact ⟨ret_int hm.out.symm, hB⟩
      · go_wp2_with fail
        go_roundg (gk - 1)
        case measure => have := HK.out; omega
        case rel =>
          refine ⟨k + 1, by have := HK.out; omega, by go_num, ?_, hB⟩
          intro j q hj hq
          by_cases hj' : j = k
          · subst hj'
            have := HL.out
            rw [this] at hq
            cases hq
            exact h1
          · exact hok.out j q (by omega) hq
    · obtain rfl : k = ls.length := by have := HK.out; omega
      clear HK
      have hm : RowKit.Hid (cpErr ls = if cpBad ls then 2 else 0) := by
        show cpErr ls = _
        rw [hE.out, if_neg]
        unfold cpMany
        rw [List.any_eq_true]
        rintro ⟨l, hl, h⟩
        obtain ⟨j, hj, e⟩ := List.getElem_of_mem hl
        exact hok.out j l hj (by rw [List.getElem?_eq_getElem hj, e]) (by simpa using h)
      go_wp2_with fail
      go_loopg [19] (ls.length) (fun m c wr => ∃ k, k + m = ls.length ∧ c = .int .i64 (k : Nat) ∧ RowKit.Hid (∀ j l, j < k → ls[j]? = some l → l.ps.all ptOk = true) ∧ Below w.heap.size w wr)
      case atStart => exact ⟨0, by omega, rfl, fun j p hj => absurd hj (by omega), hB⟩
      case round =>
        obtain ⟨k, hk, rfl, hok2, hB2⟩ := hrel
        have HK := Lib.hid hk
        clear hk
        by_cases hlt2 : k < ls.length
        · obtain ⟨l, hl⟩ : ∃ l, ls[k]? = some l := ⟨_, List.getElem?_eq_getElem hlt2⟩
          obtain ⟨b, off, hA, hb, c0, hP⟩ := (hls.below hB2) k l hl
          have hlen : ¬ 256 < l.ps.length := hok.out k l hlt2 hl
          have HL := Lib.hid hl
          clear hl
          subst hA
          cases hv : l.ps.all ptOk with
          | false =>
            have hm2 : RowKit.Hid (cpErr ls = 2) := by
              show cpErr ls = 2
              rw [hm.out, if_pos]
              unfold cpBad
              rw [List.any_eq_true]
              exact ⟨l, List.mem_of_getElem? HL.out, by simp [hv]⟩
            go_wp2_with fail
            (with_reducible refine (valid_is l.A l.cap l.ps (by omega) false hv _ (hP.more hB2.size)).mono ?_)
            rintro e w2 ⟨rfl, hb2⟩
            go_wp2_with fail
            go_ret
            exact ⟨ret_int hm2.out.symm, hB2.trans (hb2.mono hB2.size)⟩
          | true =>
            go_wp2_with fail
            (with_reducible refine (valid_is l.A l.cap l.ps (by omega) true hv _ (hP.more hB2.size)).mono ?_)
            rintro e w2 ⟨rfl, hb2⟩
            go_wp2_with fail
            go_roundg (gk - 1)
            case measure => have := HK.out; omega
            case rel =>
              refine ⟨k + 1, by have := HK.out; omega, by go_num, ?_, hB2.trans (hb2.mono hB2.size)⟩
              intro j q hj hq
              by_cases hj' : j = k
              · subst hj'
                have := HL.out
                rw [this] at hq
                cases hq
                exact hv
              · exact hok2.out j q (by omega) hq
        · obtain rfl : k = ls.length := by have := HK.out; omega
          have hm2 : RowKit.Hid (cpErr ls = 0) := by
            show cpErr ls = 0
            rw [hm.out, if_neg]
            unfold cpBad
            rw [List.any_eq_true]
            rintro ⟨l, hl, h⟩
            obtain ⟨j, hj, e⟩ := List.getElem_of_mem hl
            rw [hok2.out j l hj (by rw [List.getElem?_eq_getElem hj, e])] at h
            cases h
          clear HK
          go_wp2_with fail
          go_ret
          exact ⟨ret_int hm2.out.symm, hB2⟩


theorem ptSm_of {p : Pt} (h : ptOk p = true) : PtSm p := by
  unfold ptOk at h
  have := of_decide_eq_true h
  exact ⟨by omega, by omega, by omega, by omega⟩
/-- The error of a list of points that is to have a hull. -/
def hullE (ps : List Pt) : Int := if 256 < ps.length then 6 else if ps.all ptOk then (if ps = [] then 5 else 0) else 2
def HullPost (ps : List Pt) (w : World) (e : Ending) (w' : World) : Prop :=
  ∃ v, e = .returned (.tuple #[v, .int .i64 (hullE ps)]) ∧ Below w.heap.size w w' ∧
    (hullE ps ≠ 0 → v = .slice none 0 0) ∧ (hullE ps = 0 → ∃ g cap, v = .slice (some ⟨g, 0, none⟩) (cornersS ps).length cap ∧ OwnP w' w.heap.size g cap (cornersS ps))

set_option maxRecDepth 100000 in
set_option maxHeartbeats 2000000 in
theorem hull_any (A : Option Addr) (cap : Nat) (ps : List Pt) (w : World) (hps : PtsAt w w.heap.size A ps) :
    Calls Tryz.prog 74 #[.slice A ps.length cap] w (HullPost ps w) := by
  have hE : cpErr [⟨A, ps, cap⟩] = if 256 < ps.length then 6 else if ps.all ptOk then 0 else 2 := by
    unfold cpErr cpMany cpBad
    by_cases h1 : 256 < ps.length <;> cases h2 : ps.all ptOk <;> simp [h1, h2]
  have hL : LsAt (w.alloc (.cells #[.slice A ps.length cap] 77)) (w.alloc (.cells #[.slice A ps.length cap] 77)).heap.size (some ⟨w.heap.size, 0, none⟩) [⟨A, ps, cap⟩] := by
    intro i l hl
    match i, hl with
    | 0, hl =>
      cases hl
      exact ⟨w.heap.size, 0, rfl, by simp, (Boxed.new w _ _).cell, hps.keep (by simp) fun b o hb => by rw [((Below.refl _ w).alloc (Nat.le_refl _) _).cell (p := ⟨b, o, none⟩) hb]⟩
  have HC := checkPoints_any (some ⟨w.heap.size, 0, none⟩) 1 [⟨A, ps, cap⟩] (by simp) _ hL
  simp only [show ([⟨A, ps, cap⟩] : List PSl).length = 1 from rfl] at HC
  have hB0 : Below w.heap.size w (w.alloc (.cells #[.slice A ps.length cap] 77)) := (Below.refl _ w).alloc (Nat.le_refl _) _
  by_cases h1 : 256 < ps.length
  · have hH : RowKit.Hid (hullE ps = 6) := if_pos h1
    rw [hE, if_pos h1] at HC
    clear hE
    go_enter Tryz.func74, Tryz.ntmps74
    go_wp2_with fail
    (with_reducible refine HC.mono ?_)
    rintro e w2 ⟨rfl, hb2⟩
    go_wp2_with fail
    refine bodyPost_ret (v := .tuple #[.slice none 0 0, .int .i64 6]) (by simp [results, Tryz.results74, go_sem]) rfl ?_
    exact ⟨_, by rw [hH.out], hB0.trans (hb2.mono (by simp)), fun _ => rfl, fun h => by rw [hH.out] at h; cases h⟩
  · cases h2 : ps.all ptOk with
    | false =>
      have hH : RowKit.Hid (hullE ps = 2) := by show hullE ps = 2; unfold hullE; rw [if_neg h1, h2]; rfl
      rw [hE, if_neg h1, h2] at HC
      clear hE
      go_enter Tryz.func74, Tryz.ntmps74
      go_wp2_with fail
      (with_reducible refine HC.mono ?_)
      rintro e w2 ⟨rfl, hb2⟩
      go_wp2_with fail
      refine bodyPost_ret (v := .tuple #[.slice none 0 0, .int .i64 2]) (by simp [results, Tryz.results74, go_sem]) rfl ?_
      exact ⟨_, by rw [hH.out], hB0.trans (hb2.mono (by simp)), fun _ => rfl, fun h => by rw [hH.out] at h; cases h⟩
    | true =>
      rw [hE, if_neg h1, h2, if_pos rfl] at HC
      clear hE
      by_cases h3 : ps = []
      · have hH : RowKit.Hid (hullE ps = 5) := by show hullE ps = 5; unfold hullE; rw [if_neg h1, h2, if_pos rfl, if_pos h3]
        subst h3
        simp only [List.length_nil] at HC
        go_enter Tryz.func74, Tryz.ntmps74
        go_wp2_with fail
        (with_reducible refine HC.mono ?_)
        rintro e w2 ⟨rfl, hb2⟩
        go_wp2_with fail
        refine bodyPost_ret (v := .tuple #[.slice none 0 0, .int .i64 5]) (by simp [results, Tryz.results74, go_sem]) rfl ?_
        exact ⟨_, by rw [hH.out], hB0.trans (hb2.mono (by simp)), fun _ => rfl, fun h => by rw [hH.out] at h; cases h⟩
      · have hH : RowKit.Hid (hullE ps = 0) := by show hullE ps = 0; unfold hullE; rw [if_neg h1, h2, if_pos rfl, if_neg h3]
        have hpos := List.length_pos_iff.2 h3
        obtain ⟨b, off, hA, hb, _, _⟩ := hps 0 ps[0] (List.getElem?_eq_getElem hpos)
        subst hA
        have hS : RowKit.Hid (∀ p ∈ ps, PtSm p) := fun p hp => ptSm_of (List.all_eq_true.1 h2 p hp)
        go_enter Tryz.func74, Tryz.ntmps74
        go_wp2_with fail
        (with_reducible refine HC.mono ?_)
        rintro e w2 ⟨rfl, hb2⟩
        have hB2 := hB0.trans (hb2.mono (by simp))
        go_wp2_with fail
        (with_reducible refine (corners_any b off cap ps h3 (by omega) hS.out _ ((hps.below hB2).more hB2.size)).mono ?_)
        rintro e w3 ⟨g, cap3, rfl, hO3, hb3⟩
        go_wp2_with fail
        refine bodyPost_ret (v := .tuple #[.slice (some ⟨g, 0, none⟩) (cornersS ps).length cap3, .int .i64 0]) (by simp [results, Tryz.results74, go_sem]) rfl ?_
        exact ⟨_, by rw [hH.out], hB2.trans (hb3.mono hB2.size), fun h => absurd hH.out h, fun _ => ⟨g, cap3, rfl, hO3.more (Nat.le_trans hB2.size hO3.ge)⟩⟩

end Go.Proofs.YtacmiobhnfeflaaGreat
