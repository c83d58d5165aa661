import Derived.Test.YtacmiobhnfeflaaGreatOver
import Derived.Test.YtacmiobhnfeflaaGreatCheck
namespace Go.Proofs.YtacmiobhnfeflaaGreat
open Go.RowKit

/-- What ask leaves: R says what the function finds. -/
def AskPost (R : List Nat → Prop) (L : Ld) (i : Int) (w : World) (e : Ending) (w' : World) : Prop :=
  ∃ v c, e = .returned (.tuple #[v, .int .i64 c]) ∧ Below w.heap.size w w' ∧
    ((¬ L.Ok ∧ IsCheck L c ∧ v = .slice none 0 0) ∨ (L.Ok ∧ ¬ (0 ≤ i ∧ i < L.ps.length) ∧ c = 3 ∧ v = .slice none 0 0) ∨
      (L.Ok ∧ (0 ≤ i ∧ i < L.ps.length) ∧ c = 0 ∧ ∃ l, R l ∧ w'.ownsRow w.heap.size 3 1 v l.length (ints l)))

theorem _root_.Go.World.ownsRow.more_base {w : World} {base base' : Nat} {e : TypeId} {size n : Nat} {v : Value} {xs : List Value} (h : w.ownsRow base e size v n xs) (hb : base' ≤ base) : w.ownsRow base' e size v n xs := by
  refine ⟨h.1, ?_⟩
  rcases h.2 with h | ⟨g, cap, cur, hv, hg, hr⟩
  · exact .inl h
  · exact .inr ⟨g, cap, cur, hv, Nat.le_trans hb hg, hr⟩

set_option maxRecDepth 100000 in
set_option maxHeartbeats 1000000 in
theorem ask_any (f : Nat) (hf : f = 29 ∨ f = 30) (R : List Nat → Prop) (A E : Option Addr) (cap cap' : Nat) (L : Ld) (i : Int) (w : World) (hL : LdAt w w.heap.size A E L)
    (hfind : ∀ (k : Nat) (W : World), i = k → k < L.ps.length → L.ps.length ≤ 40 → (∀ p ∈ L.ps, p.Ok) → PcsAt W W.heap.size A L.ps → Calls Tryz.prog f #[.slice A L.ps.length cap, .int .i64 (k : Int)] W fun e W' => ∃ v l, e = .returned v ∧ R l ∧ W'.ownsRow W.heap.size 3 1 v l.length (ints l) ∧ Below W.heap.size W W') :
    Calls Tryz.prog 28 #[.agg #[.string L.name, .slice A L.ps.length cap, .slice E L.es.length cap', .int .i64 L.fr], .int .i64 i, .func (.func f) #[] #[]] w (AskPost R L i w) := by
  have HF := Lib.hid hfind
  clear hfind
  have eg : ∀ args W, (callFunc f args).run Tryz.prog W = .ok (.enter f args) W := by
    rcases hf with rfl | rfl
    · exact enters_of Tryz.func29 (by kernel_rfl) rfl
    · exact enters_of Tryz.func30 (by kernel_rfl) rfl
  clear hf
  go_enter Tryz.func28, Tryz.ntmps28
  go_wp2_with fail
  have hB0 : Below w.heap.size w (w.alloc (Obj.cells #[Value.string L.name, Value.slice A L.ps.length cap, Value.slice E L.es.length cap', Value.int .i64 L.fr] 25)) := (Below.refl _ _).alloc (Nat.le_refl _) _
  (with_reducible refine (check_any A E cap cap' L _ ((hL.below hB0).more hB0.size)).mono ?_)
  rintro e w1 ⟨n, rfl, hC, hb1⟩
  have hBl := (Blk.new w 25 #[Value.string L.name, Value.slice A L.ps.length cap, Value.slice E L.es.length cap', Value.int .i64 L.fr]).below hb1 (by simp)
  have hB1 := hB0.trans (hb1.mono hB0.size)
  clear hb1 hB0
  by_cases hn : n = 0
  · subst hn
    have hOk := hC.zero.1 rfl
    clear hC
    obtain ⟨hl1, hl2, hl3⟩ := hOk.lens
    have HOK := Lib.hid hOk
    have HPS := Lib.hid hOk.ps
    clear hOk hl3
    have c1 : w1.cell? ⟨w.heap.size, 1, none⟩ = some (Value.slice A L.ps.length cap) := by simpa using hBl.cell 1
    by_cases h0 : 0 ≤ i
    · by_cases h1 : i < L.ps.length
      · obtain ⟨k, rfl⟩ := Int.eq_ofNat_of_zero_le h0
        have d0 : decide ((k : Int) < 0) = false := by simp
        have d1 : decide (L.ps.length ≤ k) = false := by simp; omega
        go_wp2_with fail
        (with_reducible refine (HF.out k _ rfl (by omega) (by omega) HPS.out ((hL.ps.below hB1).more hB1.size)).mono ?_)
        rintro e w2 ⟨v, l, rfl, hR, hO, hb2⟩
        have hO2 := hO.more_base hB1.size
        have HR := Lib.hid hR
        clear hR
        go_wp2_with fail
        go_ret2
        exact ⟨v, 0, rfl, hB1.trans (hb2.mono hB1.size), .inr (.inr ⟨HOK.out, ⟨h0, h1⟩, rfl, l, HR.out, hO2⟩)⟩
      · have d0 : decide (i < 0) = false := by simp; omega
        have d1 : decide ((L.ps.length : Int) ≤ i) = true := by simp; omega
        go_wp2_with fail
        go_ret2
        exact ⟨_, 3, rfl, hB1, .inr (.inl ⟨HOK.out, fun h => by omega, rfl, rfl⟩)⟩
    · have d0 : decide (i < 0) = true := by simp; omega
      go_wp2_with fail
      go_ret2
      exact ⟨_, 3, rfl, hB1, .inr (.inl ⟨HOK.out, fun h => by omega, rfl, rfl⟩)⟩
  · have HC := Lib.hid hC
    have HNO : RowKit.Hid (¬ L.Ok) := fun h => hn (hC.zero.2 h)
    have hd : (n != 0) = true := by simp [hn]
    clear hC
    go_wp2_with fail
    go_ret2
    exact ⟨_, n, rfl, hB1, .inl ⟨HNO.out, HC.out, rfl⟩⟩

set_option maxHeartbeats 1000000 in
theorem rests_ask (A E : Option Addr) (cap cap' : Nat) (L : Ld) (i : Int) (w : World) (hL : LdAt w w.heap.size A E L) :
    Calls Tryz.prog 9 #[.agg #[.string L.name, .slice A L.ps.length cap, .slice E L.es.length cap', .int .i64 L.fr], .int .i64 i] w (AskPost (fun l => ∃ k : Nat, i = k ∧ l = underS L.ps k) L i w) := by
  have hB0 : Below w.heap.size w (w.alloc (Obj.cells #[Value.string L.name, Value.slice A L.ps.length cap, Value.slice E L.es.length cap', Value.int .i64 L.fr] 25)) := (Below.refl _ _).alloc (Nat.le_refl _) _
  have h := ask_any 29 (.inl rfl) (fun l => ∃ k : Nat, i = k ∧ l = underS L.ps k) A E cap cap' L i _ ((hL.below hB0).more hB0.size) (by
    intro k W hk hlt hlen hok hps
    refine (under_any A cap L.ps k hlt hlen hok W hps).mono ?_
    rintro e W' ⟨v, rfl, hO, hb⟩
    exact ⟨v, _, rfl, ⟨k, hk, rfl⟩, hO, hb⟩)
  have H := Lib.hid h
  clear h
  go_enter Tryz.func9, Tryz.ntmps9
  go_wp2_with fail
  (with_reducible refine H.out.mono ?_)
  rintro e w1 ⟨v, c, rfl, hb, hR⟩
  have HR := Lib.hid hR
  clear hR
  go_wp2_with fail
  go_ret2
  refine ⟨v, c, rfl, hB0.trans (hb.mono hB0.size), ?_⟩
  rcases HR.out with h | h | ⟨h1, h2, h3, l, h4, h5⟩
  · exact .inl h
  · exact .inr (.inl h)
  · exact .inr (.inr ⟨h1, h2, h3, l, h4, h5.more_base (by simp)⟩)
set_option maxHeartbeats 1000000 in
theorem carries_ask (A E : Option Addr) (cap cap' : Nat) (L : Ld) (i : Int) (w : World) (hL : LdAt w w.heap.size A E L) :
    Calls Tryz.prog 10 #[.agg #[.string L.name, .slice A L.ps.length cap, .slice E L.es.length cap', .int .i64 L.fr], .int .i64 i] w (AskPost (fun l => ∃ k : Nat, i = k ∧ IsOver L.ps k l) L i w) := by
  have hB0 : Below w.heap.size w (w.alloc (Obj.cells #[Value.string L.name, Value.slice A L.ps.length cap, Value.slice E L.es.length cap', Value.int .i64 L.fr] 25)) := (Below.refl _ _).alloc (Nat.le_refl _) _
  have h := ask_any 30 (.inr rfl) (fun l => ∃ k : Nat, i = k ∧ IsOver L.ps k l) A E cap cap' L i _ ((hL.below hB0).more hB0.size) (by
    intro k W hk hlt hlen hok hps
    refine (over_any A cap L.ps k hlt hlen hok W hps).mono ?_
    rintro e W' ⟨v, l, rfl, hI, hO, hb⟩
    exact ⟨v, l, rfl, ⟨k, hk, hI⟩, hO, hb⟩)
  have H := Lib.hid h
  clear h
  go_enter Tryz.func10, Tryz.ntmps10
  go_wp2_with fail
  (with_reducible refine H.out.mono ?_)
  rintro e w1 ⟨v, c, rfl, hb, hR⟩
  have HR := Lib.hid hR
  clear hR
  go_wp2_with fail
  go_ret2
  refine ⟨v, c, rfl, hB0.trans (hb.mono hB0.size), ?_⟩
  rcases HR.out with h | h | ⟨h1, h2, h3, l, h4, h5⟩
  · exact .inl h
  · exact .inr (.inl h)
  · exact .inr (.inr ⟨h1, h2, h3, l, h4, h5.more_base (by simp)⟩)

end Go.Proofs.YtacmiobhnfeflaaGreat
