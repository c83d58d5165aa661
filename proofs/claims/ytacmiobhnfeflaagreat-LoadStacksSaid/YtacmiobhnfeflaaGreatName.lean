import Derived.Test.YtacmiobhnfeflaaGreatBase
import Derived.Laws.RangeString
import Derived.Laws.RangeAny
namespace Go.Proofs.YtacmiobhnfeflaaGreat
open Go.RowKit

/-- A rune of a name: a small letter or a digit. -/
def good (r : Nat) : Bool := decide (97 ≤ r ∧ r ≤ 122) || decide (48 ≤ r ∧ r ≤ 57)
def runesF (s : ByteArray) : Nat → Nat → Bool
  | 0, _ => true
  | f + 1, pos => if pos < s.size then (good (Utf8.decode s pos).1 && runesF s f (pos + (Utf8.decode s pos).2)) else true
def nameB (s : ByteArray) : Bool := decide (1 ≤ s.size ∧ s.size ≤ 20) && runesF s s.size 0

theorem width_pos (s : ByteArray) (pos : Nat) (h : pos < s.size) : 1 ≤ (Utf8.decode s pos).2 := by
  by_cases ha : (s[pos]'h).toNat < 128
  · rw [decode_ascii s pos h ha]
    exact Nat.le_refl _
  · exact (decode_high s pos h (by omega)).2
theorem runesF_end (s : ByteArray) (f pos : Nat) (h : ¬ pos < s.size) : runesF s f pos = true := by
  cases f with
  | zero => rfl
  | succ b => simp [runesF, h]

set_option maxRecDepth 1000000 in
set_option maxHeartbeats 4000000 in
theorem validName_any (s : ByteArray) (w : World) :
    Calls Tryz.prog 18 #[.string s] w fun e w' => e = .returned (.bool (nameB s)) ∧ Below w.heap.size w w' := by
  by_cases h1 : 1 ≤ s.size
  · by_cases h2 : s.size ≤ 20
    · have hN : nameB s = runesF s s.size 0 := by unfold nameB; rw [decide_eq_true ⟨h1, h2⟩]; rfl
      have HN := Lib.hid hN
      clear hN
      go_enter Tryz.func18, Tryz.ntmps18
      go_wp2
      go_loopw [] (fun w' => ∃ (pos b : Nat), w' = w.iter s pos ∧ RowKit.Hid (runesF s b pos = runesF s s.size 0) ∧ s.size ≤ pos + b) (fun w' => s.size - w'.iterPos w.heap.size)
      case atStart => exact ⟨0, s.size, rfl, rfl, by omega⟩
      case round =>
        obtain ⟨pos, b, rfl, hc, hb⟩ := hrel
        by_cases hp : pos < s.size
        · have hnx : ∀ ty, (Instr.next (.pointer (some ⟨w.heap.size, 0, none⟩)) true ty).run Tryz.prog (w.iter s pos) = _ := fun ty => run_next_any w s pos ty hp
          have hwd := width_pos s pos hp
          go_wp2
          all_goals first
            | (have hg : good (Utf8.decode s pos).1 = true := by
                 simp [good]; omega
               go_roundw
               case rel =>
                 cases b with
                 | zero => omega
                 | succ b =>
                   refine ⟨pos + (Utf8.decode s pos).2, b, rfl, ?_, by omega⟩
                   have hc' : runesF s (b + 1) pos = runesF s s.size 0 := hc
                   rw [runesF, if_pos hp, hg] at hc'
                   exact hc'
               case measure =>
                 simp
                 omega)
            | (have hg : good (Utf8.decode s pos).1 = false := by
                 simp [good]; omega
               have hF : runesF s s.size 0 = false := by
                 cases b with
                 | zero => omega
                 | succ b =>
                   have hc' : runesF s (b + 1) pos = runesF s s.size 0 := hc
                   rw [runesF, if_pos hp, hg] at hc'
                   exact hc'.symm
               go_ret
               exact ⟨ret_bool (by rw [HN.out, hF]), (Below.refl _ _).alloc (Nat.le_refl _) _⟩)
        · have hnx : ∀ ty, (Instr.next (.pointer (some ⟨w.heap.size, 0, none⟩)) true ty).run Tryz.prog (w.iter s pos) = _ := fun ty => run_next_end w s pos ty hp
          go_wp2
          go_ret
          have hc' : runesF s b pos = runesF s s.size 0 := hc
          rw [runesF_end s b pos hp] at hc'
          exact ⟨ret_bool (by rw [HN.out, ← hc']), (Below.refl _ _).alloc (Nat.le_refl _) _⟩
    · have HN : RowKit.Hid (nameB s = false) := by
        show nameB s = false
        unfold nameB
        rw [decide_eq_false (fun hh => h2 hh.2)]
        rfl
      go_enter Tryz.func18, Tryz.ntmps18
      go_wp2
      go_ret
      exact ⟨ret_bool HN.out.symm, Below.refl _ _⟩
  · have HN : RowKit.Hid (nameB s = false) := by
      show nameB s = false
      unfold nameB
      rw [decide_eq_false (fun hh => h1 hh.1)]
      rfl
    go_enter Tryz.func18, Tryz.ntmps18
    go_wp2
    go_ret
    exact ⟨ret_bool HN.out.symm, Below.refl _ _⟩
end Go.Proofs.YtacmiobhnfeflaaGreat
