import Derived.Test.YtacmiobhnfeflaaGreatEye
import Derived.Test.YtacmiobhnfeflaaGreatAdd
namespace Go.Proofs.YtacmiobhnfeflaaGreat
open Go.RowKit

/-- The pieces ps lie at A, in a block below B. -/
def PcsAt (w : World) (B : Nat) (A : Option Addr) (ps : List Pc) : Prop :=
  ∀ (i : Nat) (p : Pc), ps[i]? = some p → ∃ b off, A = some ⟨b, off, none⟩ ∧ b < B ∧
    w.cell? ⟨b, off + i * 7, none⟩ = some (.int .i64 p.x) ∧ w.cell? ⟨b, off + i * 7 + 1, none⟩ = some (.int .i64 p.y) ∧ w.cell? ⟨b, off + i * 7 + 2, none⟩ = some (.int .i64 p.z) ∧
    w.cell? ⟨b, off + i * 7 + 3, none⟩ = some (.int .i64 p.l) ∧ w.cell? ⟨b, off + i * 7 + 4, none⟩ = some (.int .i64 p.w) ∧ w.cell? ⟨b, off + i * 7 + 5, none⟩ = some (.int .i64 p.h) ∧
    w.cell? ⟨b, off + i * 7 + 6, none⟩ = some (.int .i64 p.m)
/-- The eyes es lie at A, in a block below B. -/
def EysAt (w : World) (B : Nat) (A : Option Addr) (es : List Ey) : Prop :=
  ∀ (i : Nat) (p : Ey), es[i]? = some p → ∃ b off, A = some ⟨b, off, none⟩ ∧ b < B ∧
    w.cell? ⟨b, off + i * 4, none⟩ = some (.int .i64 p.x) ∧ w.cell? ⟨b, off + i * 4 + 1, none⟩ = some (.int .i64 p.y) ∧ w.cell? ⟨b, off + i * 4 + 2, none⟩ = some (.int .i64 p.z) ∧
    w.cell? ⟨b, off + i * 4 + 3, none⟩ = some (.int .i64 p.s)

theorem PcsAt.keep {w w' : World} {B B' : Nat} {A : Option Addr} {ps : List Pc} (h : PcsAt w B A ps) (hB : B ≤ B') (hk : ∀ b o, b < B → w'.cell? ⟨b, o, none⟩ = w.cell? ⟨b, o, none⟩) : PcsAt w' B' A ps := by
  intro i p hp
  obtain ⟨b, off, hA, hb, h0, h1, h2, h3, h4, h5, h6⟩ := h i p hp
  exact ⟨b, off, hA, by omega, (hk _ _ hb).trans h0, (hk _ _ hb).trans h1, (hk _ _ hb).trans h2, (hk _ _ hb).trans h3, (hk _ _ hb).trans h4, (hk _ _ hb).trans h5, (hk _ _ hb).trans h6⟩
theorem EysAt.keep {w w' : World} {B B' : Nat} {A : Option Addr} {ps : List Ey} (h : EysAt w B A ps) (hB : B ≤ B') (hk : ∀ b o, b < B → w'.cell? ⟨b, o, none⟩ = w.cell? ⟨b, o, none⟩) : EysAt w' B' A ps := by
  intro i p hp
  obtain ⟨b, off, hA, hb, h0, h1, h2, h3⟩ := h i p hp
  exact ⟨b, off, hA, by omega, (hk _ _ hb).trans h0, (hk _ _ hb).trans h1, (hk _ _ hb).trans h2, (hk _ _ hb).trans h3⟩
theorem PcsAt.below {w w' : World} {B : Nat} {A : Option Addr} {ps : List Pc} (h : PcsAt w B A ps) (hb : Below B w w') : PcsAt w' B A ps :=
  h.keep (Nat.le_refl _) fun b o hlt => hb.cell (p := ⟨b, o, none⟩) hlt
theorem EysAt.below {w w' : World} {B : Nat} {A : Option Addr} {ps : List Ey} (h : EysAt w B A ps) (hb : Below B w w') : EysAt w' B A ps :=
  h.keep (Nat.le_refl _) fun b o hlt => hb.cell (p := ⟨b, o, none⟩) hlt
theorem PcsAt.more {w : World} {B B' : Nat} {A : Option Addr} {ps : List Pc} (h : PcsAt w B A ps) (hB : B ≤ B') : PcsAt w B' A ps := h.keep hB fun _ _ _ => rfl
theorem EysAt.more {w : World} {B B' : Nat} {A : Option Addr} {ps : List Ey} (h : EysAt w B A ps) (hB : B ≤ B') : EysAt w B' A ps := h.keep hB fun _ _ _ => rfl

end Go.Proofs.YtacmiobhnfeflaaGreat
