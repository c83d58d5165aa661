import Derived.Test.YtacmiobhnfeflaaGreatTotal
import Derived.Test.YtacmiobhnfeflaaGreatName
import Derived.Test.YtacmiobhnfeflaaGreatPiece
namespace Go.Proofs.YtacmiobhnfeflaaGreat
open Go.RowKit

/-- A load. -/
structure Ld where
  name : ByteArray
  ps : List Pc
  es : List Ey
  fr : Int

structure LdAt (w : World) (B : Nat) (A E : Option Addr) (L : Ld) : Prop where
  ps : PcsAt w B A L.ps
  es : EysAt w B E L.es
theorem LdAt.below {w w' : World} {B : Nat} {A E : Option Addr} {L : Ld} (h : LdAt w B A E L) (hb : Below B w w') : LdAt w' B A E L := ⟨h.ps.below hb, h.es.below hb⟩
theorem LdAt.more {w : World} {B B' : Nat} {A E : Option Addr} {L : Ld} (h : LdAt w B A E L) (hB : B ≤ B') : LdAt w B' A E L := ⟨h.ps.more hB, h.es.more hB⟩

def Ld.lens (L : Ld) : Prop := 1 ≤ L.ps.length ∧ L.ps.length ≤ 32 ∧ L.es.length ≤ 32
/-- The load is valid. -/
structure Ld.Ok (L : Ld) : Prop where
  lens : L.lens
  name : nameB L.name = true
  fr : 0 ≤ L.fr ∧ L.fr ≤ 1000
  ps : ∀ p ∈ L.ps, p.Ok
  es : ∀ e ∈ L.es, e.okB = true
  sum : 1 ≤ (totalS L.ps).m ∧ (totalS L.ps).m ≤ 16777216

/-- The error of a load: 0 just if it is valid, 6 just if its lists are too long. -/
def IsCheck (L : Ld) (n : Int) : Prop := (n = 0 ∧ L.Ok) ∨ (n = 2 ∧ L.lens ∧ ¬ L.Ok) ∨ (n = 6 ∧ ¬ L.lens)
theorem isCheck_six {L : Ld} (h : ¬ L.lens) : IsCheck L 6 := .inr (.inr ⟨rfl, h⟩)
theorem isCheck_two {L : Ld} (hl : L.lens) (h : ¬ L.Ok) : IsCheck L 2 := .inr (.inl ⟨rfl, hl, h⟩)
theorem isCheck_zero {L : Ld} (h : L.Ok) : IsCheck L 0 := .inl ⟨rfl, h⟩
theorem IsCheck.zero {L : Ld} {n : Int} (h : IsCheck L n) : n = 0 ↔ L.Ok := by
  rcases h with ⟨rfl, h⟩ | ⟨rfl, _, h⟩ | ⟨rfl, h⟩
  · exact ⟨fun _ => h, fun _ => rfl⟩
  · exact ⟨fun e => absurd e (by decide), fun e => absurd e h⟩
  · exact ⟨fun e => absurd e (by decide), fun e => absurd e.lens h⟩
theorem IsCheck.unique {L : Ld} {n m : Int} (h : IsCheck L n) (k : IsCheck L m) : n = m := by
  rcases h with ⟨rfl, h⟩ | ⟨rfl, h', h⟩ | ⟨rfl, h⟩ <;> rcases k with ⟨rfl, k⟩ | ⟨rfl, k', k⟩ | ⟨rfl, k⟩ <;> first | rfl | exact absurd h k | exact absurd k h | exact absurd h.lens k | exact absurd k.lens h | exact absurd h' k | exact absurd k' h

/-- What Check leaves. -/
def CheckPost (L : Ld) (w : World) (e : Ending) (w' : World) : Prop := ∃ n, e = .returned (.int .i64 n) ∧ IsCheck L n ∧ Below w.heap.size w w'

theorem field_wt0 (m a b c : Int) (W : World) : (Instr.field 49 (.agg #[.int .i64 m, .int .i64 a, .int .i64 b, .int .i64 c]) 0).run Tryz.prog W = .ok (.int .i64 m) W := by kernel_rfl

set_option maxRecDepth 100000 in
set_option maxHeartbeats 4000000 in
theorem check_any (A E : Option Addr) (cap cap' : Nat) (L : Ld) (w : World) (hL : LdAt w w.heap.size A E L) :
    Calls Tryz.prog 6 #[.agg #[.string L.name, .slice A L.ps.length cap, .slice E L.es.length cap', .int .i64 L.fr]] w (CheckPost L w) := by
  by_cases h1 : 1 ≤ L.ps.length
  · by_cases h2 : L.ps.length ≤ 32
    · by_cases h3 : L.es.length ≤ 32
      · by_cases hN : nameB L.name = true
        · by_cases hF : 0 ≤ L.fr ∧ L.fr ≤ 1000
          · have HF := Lib.hid hF
            clear hF
            go_enter Tryz.func6, Tryz.ntmps6
            go_wp2_with fail
            (with_reducible refine (validName_any L.name _).mono ?_)
            rintro e w1 ⟨rfl, hb⟩
            have hb1 : Below (w.heap.size + 1) (w.alloc (Obj.cells #[Value.string L.name, Value.slice A L.ps.length cap, Value.slice E L.es.length cap', Value.int .i64 L.fr] 25)) w1 := hb.mono (by simp)
            have hBl := (Blk.new w 25 #[Value.string L.name, Value.slice A L.ps.length cap, Value.slice E L.es.length cap', Value.int .i64 L.fr]).below hb1 (by omega)
            have hB : Below w.heap.size w w1 := ((Below.refl _ _).alloc (Nat.le_refl _) _).trans (hb1.mono (by omega))
            clear hb hb1
            have c1 : w1.cell? ⟨w.heap.size, 1, none⟩ = some (Value.slice A L.ps.length cap) := by simpa using hBl.cell 1
            have c2 : w1.cell? ⟨w.heap.size, 2, none⟩ = some (Value.slice E L.es.length cap') := by simpa using hBl.cell 2
            have c3 : w1.cell? ⟨w.heap.size, 3, none⟩ = some (Value.int .i64 L.fr) := by simpa using hBl.cell 3
            go_wp2_with fail
            (with_reducible refine (between_yes _ _ _ HF.out _).mono ?_)
            rintro e w2 ⟨rfl, rfl⟩
            go_wp2_with fail
            clear c1 c2 c3
            go_loopg [36] (L.ps.length) (fun m i wr => ∃ k, k + m = L.ps.length ∧ i = .int .i64 (k : Nat) ∧ RowKit.Hid (∀ j p, j < k → L.ps[j]? = some p → p.Ok) ∧ Blk wr w.heap.size 25 #[Value.string L.name, Value.slice A L.ps.length cap, Value.slice E L.es.length cap', Value.int .i64 L.fr] ∧ Below w.heap.size w wr)
            case atStart => exact ⟨0, by omega, rfl, fun j p hj => absurd hj (by omega), hBl, hB⟩
            case round =>
              obtain ⟨k, hk, rfl, hok, hBl, hB⟩ := hrel
              have HK := Lib.hid hk
              clear hk
              by_cases hlt : k < L.ps.length
              · have hp0 : L.ps[k]? = some L.ps[k] := List.getElem?_eq_getElem hlt
                obtain ⟨b, off, hA, hb, c0, c1, c2, c3, c4, c5, c6⟩ := (hL.ps.below hB) k _ hp0
                have HP := Lib.hid hp0
                clear hp0
                subst hA
                go_wp2_with fail
                (with_reducible refine (validPiece_any L.ps[k] _).mono ?_)
                rintro e w2 ⟨rfl, hb2⟩
                have hB2 : Below w.heap.size w w2 := (hB.alloc hB.size _).trans (hb2.mono (by have := hB.size; simp; omega))
                have hBl2 : Blk w2 w.heap.size 25 #[Value.string L.name, Value.slice (some ⟨b, off, none⟩) L.ps.length cap, Value.slice E L.es.length cap', Value.int .i64 L.fr] := (hBl.alloc _).below hb2 (by have := hBl.lt; simp; omega)
                by_cases hv : L.ps[k].okB = true
                · go_wp2_with fail
                  go_roundg (gk - 1)
                  case measure => have := HK.out; omega
                  case rel =>
                    refine ⟨k + 1, by have := HK.out; omega, by go_num, ?_, hBl2, hB2⟩
                    intro j p hj hp
                    by_cases hj' : j = k
                    · subst hj'
                      have := HP.out
                      rw [this] at hp
                      cases hp
                      exact (Pc.okB_iff _).1 hv
                    · exact hok j p (by omega) hp
                · have hv' : L.ps[k].okB = false := by simpa using hv
                  have HR := Lib.hid (isCheck_two (L := L) ⟨h1, h2, h3⟩ (fun hh => hv ((Pc.okB_iff _).2 (hh.ps _ (List.getElem_mem _)))))
                  clear hv
                  go_wp2_with fail
                  go_ret
                  exact ⟨2, rfl, HR.out, hB2⟩
              · obtain rfl : k = L.ps.length := by have := HK.out; omega
                have hall : ∀ p ∈ L.ps, p.Ok := by
                  intro p hp
                  obtain ⟨j, hj, e⟩ := List.getElem_of_mem hp
                  exact hok j p hj (by rw [List.getElem?_eq_getElem hj, e])
                have HALL := Lib.hid hall
                clear hall hok
                have c2 : wr.cell? ⟨w.heap.size, 2, none⟩ = some (Value.slice E L.es.length cap') := by simpa using hBl.cell 2
                go_wp2_with fail
                clear c2
                obtain ⟨w0, hw0⟩ : ∃ w0, w0 = wr := ⟨_, rfl⟩
                rw [← hw0] at hB hBl ⊢
                clear hw0 HK
                go_loopg [47] (L.es.length) (fun m i wr => ∃ k, k + m = L.es.length ∧ i = .int .i64 (k : Nat) ∧ RowKit.Hid (∀ j p, j < k → L.es[j]? = some p → p.okB = true) ∧ Blk wr w.heap.size 25 #[Value.string L.name, Value.slice A L.ps.length cap, Value.slice E L.es.length cap', Value.int .i64 L.fr] ∧ Below w.heap.size w wr)
                case atStart => exact ⟨0, by omega, rfl, fun j p hj => absurd hj (by omega), hBl, hB⟩
                case round =>
                  obtain ⟨k, hk, rfl, hok, hBl, hB⟩ := hrel
                  have HK := Lib.hid hk
                  clear hk
                  by_cases hlt : k < L.es.length
                  · have hp0 : L.es[k]? = some L.es[k] := List.getElem?_eq_getElem hlt
                    obtain ⟨b, off, hA, hb, c0, c1, c2, c3⟩ := (hL.es.below hB) k _ hp0
                    have HP := Lib.hid hp0
                    clear hp0
                    subst hA
                    go_wp2_with fail
                    (with_reducible refine (validEye_any L.es[k] _).mono ?_)
                    rintro e w2 ⟨rfl, hb2⟩
                    have hB2 : Below w.heap.size w w2 := (hB.alloc hB.size _).trans (hb2.mono (by have := hB.size; simp; omega))
                    have hBl2 : Blk w2 w.heap.size 25 #[Value.string L.name, Value.slice A L.ps.length cap, Value.slice (some ⟨b, off, none⟩) L.es.length cap', Value.int .i64 L.fr] := (hBl.alloc _).below hb2 (by have := hBl.lt; simp; omega)
                    by_cases hv : L.es[k].okB = true
                    · go_wp2_with fail
                      go_roundg (gk - 1)
                      case measure => have := HK.out; omega
                      case rel =>
                        refine ⟨k + 1, by have := HK.out; omega, by go_num, ?_, hBl2, hB2⟩
                        intro j p hj hp
                        by_cases hj' : j = k
                        · subst hj'
                          have := HP.out
                          rw [this] at hp
                          cases hp
                          exact hv
                        · exact hok j p (by omega) hp
                    · have hv' : L.es[k].okB = false := by simpa using hv
                      have HR := Lib.hid (isCheck_two (L := L) ⟨h1, h2, h3⟩ (fun hh => hv (hh.es _ (List.getElem_mem _))))
                      clear hv
                      go_wp2_with fail
                      go_ret
                      exact ⟨2, rfl, HR.out, hB2⟩
                  · obtain rfl : k = L.es.length := by have := HK.out; omega
                    have halle : ∀ p ∈ L.es, p.okB = true := by
                      intro p hp
                      obtain ⟨j, hj, e⟩ := List.getElem_of_mem hp
                      exact hok j p hj (by rw [List.getElem?_eq_getElem hj, e])
                    have HALLE := Lib.hid halle
                    clear halle hok HK
                    have c1 : wr.cell? ⟨w.heap.size, 1, none⟩ = some (Value.slice A L.ps.length cap) := by simpa using hBl.cell 1
                    go_wp2_with fail
                    (with_reducible refine (total_any A cap L.ps (by omega) HALL.out _ ((hL.ps.below hB).more hB.size)).mono ?_)
                    rintro e w2 ⟨rfl, hb2⟩
                    have hB2 : Below w.heap.size w w2 := hB.trans (hb2.mono hB.size)
                    have hfd := field_wt0 (totalS L.ps).m (totalS L.ps).a (totalS L.ps).b (totalS L.ps).c
                    by_cases hS : 1 ≤ (totalS L.ps).m ∧ (totalS L.ps).m ≤ 16777216
                    · have HR := Lib.hid (isCheck_zero (L := L) ⟨⟨h1, h2, h3⟩, hN, HF.out, HALL.out, HALLE.out, hS⟩)
                      have HS := Lib.hid hS
                      clear hS
                      go_wp2_with fail
                      (with_reducible refine (between_yes _ _ _ HS.out _).mono ?_)
                      rintro e w3 ⟨rfl, rfl⟩
                      go_wp2_with fail
                      go_ret
                      exact ⟨0, rfl, HR.out, hB2⟩
                    · have HR := Lib.hid (isCheck_two (L := L) ⟨h1, h2, h3⟩ (fun hh => hS hh.sum))
                      have HS := Lib.hid hS
                      clear hS
                      go_wp2_with fail
                      (with_reducible refine (between_no _ _ _ HS.out _).mono ?_)
                      rintro e w3 ⟨rfl, rfl⟩
                      go_wp2_with fail
                      go_ret
                      exact ⟨2, rfl, HR.out, hB2⟩
          · have HF := Lib.hid hF
            have HR := Lib.hid (isCheck_two (L := L) ⟨h1, h2, h3⟩ (fun hh => hF hh.fr))
            clear hF
            go_enter Tryz.func6, Tryz.ntmps6
            go_wp2_with fail
            (with_reducible refine (validName_any L.name _).mono ?_)
            rintro e w1 ⟨rfl, hb⟩
            have hb1 : Below (w.heap.size + 1) (w.alloc (Obj.cells #[Value.string L.name, Value.slice A L.ps.length cap, Value.slice E L.es.length cap', Value.int .i64 L.fr] 25)) w1 := hb.mono (by simp)
            have hBl := (Blk.new w 25 #[Value.string L.name, Value.slice A L.ps.length cap, Value.slice E L.es.length cap', Value.int .i64 L.fr]).below hb1 (by omega)
            have hB : Below w.heap.size w w1 := ((Below.refl _ _).alloc (Nat.le_refl _) _).trans (hb1.mono (by omega))
            clear hb hb1
            have c3 : w1.cell? ⟨w.heap.size, 3, none⟩ = some (Value.int .i64 L.fr) := by simpa using hBl.cell 3
            go_wp2_with fail
            (with_reducible refine (between_no _ _ _ HF.out _).mono ?_)
            rintro e w2 ⟨rfl, rfl⟩
            go_wp2_with fail
            go_ret
            exact ⟨2, rfl, HR.out, hB⟩
        · have hN' : nameB L.name = false := by simpa using hN
          have HR := Lib.hid (isCheck_two (L := L) ⟨h1, h2, h3⟩ (fun hh => hN hh.name))
          clear hN
          go_enter Tryz.func6, Tryz.ntmps6
          go_wp2_with fail
          (with_reducible refine (validName_any L.name _).mono ?_)
          rintro e w1 ⟨rfl, hb⟩
          have hB : Below w.heap.size w w1 := ((Below.refl _ _).alloc (Nat.le_refl _) _).trans (hb.mono (by simp))
          go_wp2_with fail
          go_ret
          exact ⟨2, rfl, HR.out, hB⟩
      · have hd : decide (32 < (L.es.length : Int)) = true := by simp; omega
        have HR := Lib.hid (isCheck_six (L := L) (fun hh => h3 hh.2.2))
        go_enter Tryz.func6, Tryz.ntmps6
        go_wp2_with fail
        go_ret
        exact ⟨6, rfl, HR.out, (Below.refl _ _).alloc (Nat.le_refl _) _⟩
    · have hd : decide (32 < (L.ps.length : Int)) = true := by simp; omega
      have HR := Lib.hid (isCheck_six (L := L) (fun hh => h2 hh.2.1))
      go_enter Tryz.func6, Tryz.ntmps6
      go_wp2_with fail
      go_ret
      exact ⟨6, rfl, HR.out, (Below.refl _ _).alloc (Nat.le_refl _) _⟩
  · have hd : decide ((L.ps.length : Int) < 1) = true := by simp; omega
    have HR := Lib.hid (isCheck_six (L := L) (fun hh => h1 hh.1))
    go_enter Tryz.func6, Tryz.ntmps6
    go_wp2_with fail
    go_ret
    exact ⟨6, rfl, HR.out, (Below.refl _ _).alloc (Nat.le_refl _) _⟩

end Go.Proofs.YtacmiobhnfeflaaGreat
