import Derived.Test.YtacmiobhnfeflaaGreatOutline
namespace Go.Proofs.YtacmiobhnfeflaaGreat
open Go.RowKit Go.Sort Go.Shelf

/-! ### A loop over a method value: the function is called with its bound receiver ahead of yield -/
section
variable {α : Type} {n : Nat} {P : Program} {w : World}

/-- What such an iterator does, told at a loop's invariant (as SeqStopsK, the receiver ahead). -/
def StopsM (n : Nat) (P : Program) (g : Nat) (recv : Array Value) (encs : α → Array Value) (Kp : World → World → Prop) (S Sp : List α → Prop) (N : Nat) (w : World) : Prop :=
  ∀ (l : Nat) (J Jx : List α → World → Prop) (W : World), Below w.heap.size w W → AbidesFrom W.heap.size J → AbidesFrom W.heap.size Jx →
    (∀ pre x W1, J pre W1 → pre.length < N → YieldAt Fence.wide (n - 1) P l (encs x) W1 fun e W' =>
      (e = .returned (.bool true) ∧ J (pre ++ [x]) W' ∧ Kp W1 W') ∨ (e = .returned (.bool false) ∧ Jx (pre ++ [x]) W')) →
    J [] W →
    CallsIn Fence.wide n P g (recv ++ #[.func (.yield l) #[] #[]]) W fun e W' => (∃ v, e = .returned v) ∧ ((∃ xs, S xs ∧ J xs W') ∨ (∃ pre, Sp pre ∧ Jx pre W'))

/-- The loop's record and its block for deferred calls lie where the loop began. -/
structure RecAt (w : World) (r : Loop) (W : World) : Prop where
  rcd : W.heap[w.heap.size + 1]? = some (.loop r)
  blk : W.heap[w.heap.size]? = some (.deferred (some []))
theorem RecAt.lt {r : Loop} {W : World} (h : RecAt w r W) : w.heap.size + 1 < W.heap.size := (Array.getElem?_eq_some_iff.1 h.rcd).1
theorem RecAt.keeps {r : Loop} {W W' : World} (h : RecAt w r W) (hk : KeepsFrom w.heap.size W W') : RecAt w r W' :=
  ⟨hk.same _ _ (Nat.le_succ _) h.rcd rfl, hk.same _ _ (Nat.le_refl _) h.blk rfl⟩
theorem RecAt.grown {r : Loop} {W W' : World} {row : Option Nat} (h : RecAt w r W) (hg : W.grownBy W' row) (hr : ∀ i, row = some i → ∃ o : Obj, W.heap[i]? = some o ∧ o.isWalk = true) : RecAt w r W' :=
  ⟨(grownBy_keeps hg hr h.rcd rfl).trans h.rcd, (grownBy_keeps hg hr h.blk rfl).trans h.blk⟩
theorem RecAt.put {r : Loop} {W : World} (h : RecAt w r W) (r' : Loop) : RecAt w r' (W.putObj (w.heap.size + 1) (.loop r')) :=
  ⟨World.putObj_heap_same h.lt, (World.putObj_heap_other (by omega)).trans h.blk⟩

theorem wpIn_rangeM {g : Operand} {ps : Array Tmp} {assign body : Code} {Q : Exit → Act → World → Prop} {a : Act} {gf : Nat} {recv : Array Value}
    (hg : a.eval g = .func (.func gf) recv #[]) (eg : ∀ args w, (callFunc gf args).run P w = .ok (.enter gf args) w)
    {encs : α → Array Value} {Kp : World → World → Prop} {S Sp : List α → Prop} {N : Nat} (hseq : StopsM (n - 1) P gf recv encs Kp S Sp N w)
    (hKt : ∀ {A B C : World}, Kp A B → Kp B C → Kp A C) (hKb : ∀ (W : World) (l : Nat) (o o' : Obj), w.heap.size ≤ l → W.heap[l]? = some o → o.isCells = false → o.isWalk = false → Kp W (W.putObj l o')) (hps : ∀ x, (encs x).size = ps.size)
    (I : List α → World → Prop) (Ix : Code → List α → World → Prop) (hI : OwnFrom w.heap.size I) (hIx : ∀ c, OwnFrom w.heap.size (Ix c)) (h0 : I [] w) (Ax : α → Act → World → Prop) (hAx : ∀ x a', OwnFrom w.heap.size (fun (_ : Unit) W => Ax x a' W))
    (hassign : ∀ (l : Nat) (pre : List α) (x : α) (W : World) (K : Act → World → Prop), I pre W → (∀ a' W', KeepsFrom w.heap.size W W' → Kp W W' → I pre W' → Ax x a' W' → K a' W') →
      assign.wpIn (Fence.wide.inRound l) (n - 1 - 1) P (Exit.then K (fun _ _ _ => False)) { tmps := (ps.zip (encs x)).foldl (fun t (p, v) => t.setIfInBounds p v) a.tmps, defers := [] } W)
    (hbody : ∀ (l : Nat) (pre : List α) (x : α) (a' : Act) (W : World), I pre W → Ax x a' W → pre.length < N → body.wpIn (Fence.wide.inRound l) (n - 1 - 1) P (ownPostG w.heap.size Kp I Ix (pre ++ [x]) W) a' W)
    (hdone : ∀ (D : Nat) (xs : List α) (W : World), w.heap.size ≤ D → S xs → I xs W → W.heap[D]? = some (.deferred (some [])) → Q .normal { a with defers := { target := .collected D, args := #[] } :: a.defers } W)
    (hstop : ∀ (D : Nat) (c : Code) (pre : List α) (W : World), w.heap.size ≤ D → Sp pre → Ix c pre W → W.heap[D]? = some (.deferred (some [])) → c.wpIn Fence.wide n P Q { a with defers := { target := .collected D, args := #[] } :: a.defers } W) :
    (Code.rangeFunc g ps assign body).wpIn Fence.wide n P Q a w := by
  refine wpIn_rangeFunc fun fn _ => ?_
  let rc : LoopState → Option Code → Loop := fun st pe => { state := st, pending := pe, fn, tmps := a.tmps, params := ps, assign, body, defers := w.heap.size }
  let W1 := (w.alloc (.deferred (some []))).alloc (.loop (rc .ready none))
  have hR1 : RecAt w (rc .ready none) W1 := ⟨by have := World.alloc_heap_new (w.alloc (.deferred (some []))) (.loop (rc .ready none)); rwa [World.size_alloc] at this, (Below.heap_alloc _ _ _ (by simp)).trans (World.alloc_heap_new w _)⟩
  have hB1 : Below w.heap.size w W1 := ((Below.refl _ w).alloc (Nat.le_refl _) _).alloc (by simp) _
  have hs1 : W1.heap.size = w.heap.size + 2 := by simp [W1]
  have far : ∀ {A : World} {row : Option Nat}, (∀ i, row = some i → W1.heap.size ≤ i ∧ ∃ o : Obj, A.heap[i]? = some o ∧ o.isWalk = true) → (∀ i, row = some i → w.heap.size ≤ i ∧ ∃ o : Obj, A.heap[i]? = some o ∧ o.isCells = false) :=
    fun hr i e => by
      obtain ⟨hb, o, ho, hw⟩ := hr i e
      exact ⟨by omega, o, ho, Obj.not_cells_of_walk hw⟩
  refine ⟨w.heap.size + 1, [{ target := .collected w.heap.size, args := #[] }], W1, { target := .fn (.func gf) #[], args := recv ++ #[.func (.yield (w.heap.size + 1)) #[] #[]] }, W1, gf, recv ++ #[.func (.yield (w.heap.size + 1)) #[] #[]], W1, run_enterLoop_outer _ _ _ _ _, ?_, fun _ _ => trivial, ?_, fun h => by simp [Fence.wide] at h, ?_⟩
  · simp only [resolve, hg]
    simp [go_sem]
  · simp [invoke, go_sem, eg]
  have H := hseq (w.heap.size + 1) (fun pre W => I pre W ∧ RecAt w (rc .ready none) W) (fun pre W => ∃ c, Ix c pre W ∧ RecAt w (rc .done (some c)) W) W1 hB1
    (fun s A B row hs hg' hr => ⟨hI s A B row hs.1 hg' (far hr), hs.2.grown hg' fun i e => (hr i e).2⟩)
    (fun s A B row ⟨c, hc, hr'⟩ hg' hr => ⟨c, hIx c s A B row hc hg' (far hr), hr'.grown hg' fun i e => (hr i e).2⟩)
    ?_ ⟨hI.alloc _ (hI.alloc _ h0), hR1⟩
  · refine H.mono ?_
    rintro e W2 ⟨⟨v, rfl⟩, ⟨xs, hS, hi, hr⟩ | ⟨pre, hSp, c, hi, hr⟩⟩
    · exact ⟨none, _, run_endLoop (P := P) hr.rcd (by simp [rc]), hdone _ xs _ (Nat.le_refl _) hS (hI.putObj _ hi (by omega) hr.rcd rfl) (hr.put _).blk⟩
    · exact ⟨some c, _, run_endLoop (P := P) hr.rcd (by simp [rc]), hstop _ c pre _ (Nat.le_refl _) hSp ((hIx c).putObj _ hi (by omega) hr.rcd rfl) (hr.put _).blk⟩
  · rintro pre x W ⟨hi, hr⟩ hlen
    refine ⟨fn, _, assign, body, run_yield (P := P) (args := encs x) hr.rcd (hps x), roundIn_of_wpIn trivial (hassign _ pre x W _ hi ?_)⟩
    intro a' Wa hk hkp hia hax
    have hra := hr.keeps hk
    refine ⟨_, run_beginRound hra.rcd rfl, ?_⟩
    have hrb := hra.put { rc .ready none with state := .busy }
    refine wpIn_mono (hbody _ pre x a' _ (hI.putObj _ hia (by omega) hra.rcd rfl) ((hAx x a').putObj (s := ()) _ hax (by omega) hra.rcd rfl) hlen) ?_
    have hkb := hKb Wa _ _ (.loop { rc .ready none with state := .busy }) (by omega) hra.rcd rfl rfl
    intro e a3 W3 hp
    cases e with
    | normal =>
      obtain ⟨hk3, hkp3, hi3⟩ := hp
      have hrc := hrb.keeps hk3
      exact ⟨_, _, run_endRound (P := P) none hrc.rcd, .inl ⟨rfl, ⟨hI.putObj _ hi3 (by omega) hrc.rcd rfl, hrc.put _⟩, hKt hkp (hKt (hKt hkb hkp3) (hKb _ _ _ _ (by omega) hrc.rcd rfl rfl))⟩⟩
    | ret =>
      have hrc := hrb.keeps hp.1
      exact ⟨_, _, run_endRound (P := P) (some .ret) hrc.rcd, .inr ⟨rfl, .ret, (hIx _).putObj _ hp.2 (by omega) hrc.rcd rfl, hrc.put _⟩⟩
    | exit id =>
      have hrc := hrb.keeps hp.1
      exact ⟨_, _, run_endRound (P := P) (some (.exit id)) hrc.rcd, .inr ⟨rfl, .exit id, (hIx _).putObj _ hp.2 (by omega) hrc.rcd rfl, hrc.put _⟩⟩
    | goto t =>
      have hrc := hrb.keeps hp.1
      exact ⟨_, _, run_endRound (P := P) (some (.goto t)) hrc.rcd, .inr ⟨rfl, .goto t, (hIx _).putObj _ hp.2 (by omega) hrc.rcd rfl, hrc.put _⟩⟩
    | panic ch => exact hp.elim
    | outgrown => exact hp.elim
end

end Go.Proofs.YtacmiobhnfeflaaGreat
