/- Texts of this seat, set one behind the other. -/
import Derived.Test.YtcooapflofiolaaDoorZ1
import Derived.RangeFuncWrites
import Derived.Test.YtcooapflofiolaaDoorZ2
import Derived.Test.YtcooapflofiolaaDoorZ3
import Derived.OwnWalkIn
import Derived.Test.YtcooapflofiolaaDoorRows
import Derived.WalkKit
import Derived.ProofKit
import Derived.OpenShut
import Derived.Deep.RegionHeld3
import Derived.Deep.DeepCutAuto
import Derived.ShutString
import Derived.ChangeOld
import Derived.Below
import Derived.SizedLaws
import Derived.Test.YtcooapflofiolaaDoorTie
import Derived.Test.YtcooapflofiolaaDoorCards
import Derived.SevenTiedAt
/- A range over a function whose iterator writes to blocks of its own, all of them in one stretch of the heap that no round touches. -/
namespace Go.Proofs.YtcooapflofiolaaDoor
open Go Go.RowKit
set_option linter.unusedVariables false
set_option linter.unusedSimpArgs false
set_option maxRecDepth 100000
theorem kept_grown {S : Nat → Prop} {A B : World} {row : Option Nat} (hg : A.grownBy B row) (hr : ∀ r, row = some r → S r) : Kept S A B :=
  ⟨hg.os, hg.tape, hg.output, hg.size, fun k hk hn => hg.block k hk (fun e => hn (hr k e.symm))⟩
theorem kept_put (W : World) (l : Nat) (o : Obj) : Kept (fun k => k = l) W (W.putObj l o) := kept_grown (grownBy_putObj' W l o) (fun r e => by cases e; rfl)
/-- What such an iterator over N values promises: it lays its blocks first, from the heap's size on up to 'hi', and writes there alone; a round may write to block Pb, to the loop's record and from 'hi' on. -/
def SeqR (F : Fence) (n : Nat) (P : Program) (g : Nat) (lb : Array Value) (encs : Nat → Array Value) (N Pb : Nat) (w : World) : Prop :=
  ∀ (l : Nat) (J : Nat → Nat → World → Prop) (Jx : World → Prop) (W : World), Below w.heap.size w W → l < W.heap.size → w.heap.size ≤ l →
    (∀ W1, Below W.heap.size W W1 → J W1.heap.size 0 W1) →
    (∀ hi k A B, J hi k A → Kept (fun j => W.heap.size ≤ j ∧ j < hi) A B → J hi k B) →
    (∀ hi k A, J hi k A → hi ≤ A.heap.size → W.heap.size ≤ hi → k < N → YieldAt F (n - 1) P l (encs k) A fun e B =>
      (e = .returned (.bool true) ∧ J hi (k + 1) B ∧ Kept (fun j => j = Pb ∨ j = l ∨ hi ≤ j) A B) ∨ (e = .returned (.bool false) ∧ Jx B)) →
    CallsIn F n P g (#[.func (.yield l) #[] #[]] ++ lb) W fun e W' => (∃ v, e = .returned v) ∧ ((∃ hi, W.heap.size ≤ hi ∧ J hi N W') ∨ Jx W')
/-- How a round's body may be left: off its end, or by the one exit. -/
def bodyR (Pb hi ct : Nat) (I : Nat → World → Prop) (Ix : Nat → World → Prop) (k : Nat) (W : World) : Exit → Act → World → Prop
  | .normal, _, W' => Kept (fun j => j = Pb ∨ hi ≤ j) W W' ∧ I (k + 1) W'
  | .exit id, _, W' => id = ct ∧ Kept (fun j => j = Pb ∨ hi ≤ j) W W' ∧ Ix hi W'
  | _, _, _ => False
variable {F : Fence} {n : Nat} {P : Program}
theorem range_walk {g : Operand} {ps : Array Tmp} {assign body : Code} {Q : Exit → Act → World → Prop} {a : Act} {w : World}
    (hro : F.round = none) (h1 : 1 ≤ n) {gf : Nat} {lb : Array Value} (hg : a.eval g = .func (.func gf) #[] lb) (hFg : F.fn gf) (eg : ∀ args w, (callFunc gf args).run P w = .ok (.enter gf args) w)
    {encs : Nat → Array Value} {N Pb : Nat} {w0 : World} (hseq : SeqR F (n - 1) P gf lb encs N Pb w0) (hb0 : Below w0.heap.size w0 w) (hPb : Pb < w0.heap.size) (hps : ∀ x, (encs x).size = ps.size)
    (I : Nat → Nat → World → Prop) (Ix : Nat → World → Prop) (ct : Nat)
    (h0 : ∀ W1, Below w.heap.size w W1 → I W1.heap.size 0 W1)
    (hI : ∀ hi k A B, I hi k A → Kept (fun j => w.heap.size ≤ j ∧ j < hi) A B → I hi k B)
    (hIx : ∀ hi A B, Ix hi A → Kept (fun j => w.heap.size ≤ j ∧ j < hi) A B → Ix hi B) (a₁ : Nat → Act)
    (hassign : ∀ (l : Nat) (x : Nat) (W : World) (K : Act → World → Prop), K (a₁ x) W →
      assign.wpIn (F.inRound l) (n - 1 - 1) P (Exit.then K (fun _ _ _ => False)) { tmps := (ps.zip (encs x)).foldl (fun t (p, v) => t.setIfInBounds p v) a.tmps, defers := [] } W)
    (hbody : ∀ (l hi k : Nat) (W : World), I hi k W → w.heap.size ≤ l → l < hi → hi ≤ W.heap.size → k < N → body.wpIn (F.inRound l) (n - 1 - 1) P (bodyR Pb hi ct (I hi) Ix k W) (a₁ k) W)
    (hdone : ∀ (D hi : Nat) (W : World), w.heap.size ≤ D → D < hi → I hi N W → W.heap[D]? = some (.deferred (some [])) → Q .normal { a with defers := { target := .collected D, args := #[] } :: a.defers } W)
    (hstop : ∀ (D hi : Nat) (W : World), w.heap.size ≤ D → D < hi → Ix hi W → W.heap[D]? = some (.deferred (some [])) → (Code.exit ct).wpIn F n P Q { a with defers := { target := .collected D, args := #[] } :: a.defers } W) :
    (Code.rangeFunc g ps assign body).wpIn F n P Q a w := by
  refine wpIn_rangeFunc fun fn hfn => ?_
  rw [hro]
  obtain ⟨s, hs⟩ : ∃ s, s = w.heap.size := ⟨_, rfl⟩
  let r : Loop := { state := .ready, pending := none, fn, tmps := a.tmps, params := ps, assign, body, defers := s }
  obtain ⟨W1, hW1⟩ : ∃ W1, W1 = (w.alloc (.deferred (some []))).alloc (.loop r) := ⟨_, rfl⟩
  have hz : W1.heap.size = s + 2 := by rw [hW1]; simp [hs]
  have hL : W1.heap[s + 1]? = some (.loop r) := by rw [hW1, hs]; have := World.alloc_heap_new (w.alloc (.deferred (some []))) (.loop r); rwa [World.size_alloc] at this
  have hD : W1.heap[s]? = some (.deferred (some [])) := by rw [hW1, hs]; exact (Below.heap_alloc _ _ _ (by simp)).trans (World.alloc_heap_new w _)
  have hb1 : Below w.heap.size w W1 := by rw [hW1]; exact ((Below.refl _ w).alloc (Nat.le_refl _) _).alloc (by simp) _
  have hsz0 := hb0.size
  refine ⟨s + 1, [{ target := .collected s, args := #[] }], W1, { target := .fn (.func gf) lb, args := #[.func (.yield (s + 1)) #[] #[]] }, W1, gf, #[.func (.yield (s + 1)) #[] #[]] ++ lb, W1, ?_, ?_, ?_, ?_, fun _ => h1, ?_⟩
  · have h := run_enterLoop_outer (P := P) (w := w) fn a.tmps ps assign body
    rw [← hs] at h
    rw [hW1]
    exact h
  · simp only [resolve, hg]
    simp [go_sem]
  · intro f' hf'; simp [Target.leads] at hf'; subst hf'; exact hFg
  · simp [invoke, go_sem, eg]
  have own : ∀ {A B : World} {hi : Nat} {S : Nat → Prop}, Kept S A B → (∀ j, S j → j = s + 1) → s + 1 < hi → Kept (fun j => w.heap.size ≤ j ∧ j < hi) A B := fun hk hS hl => hk.weaken fun j hj => by have := hS j hj; omega
  refine (hseq (s + 1) (fun hi k W => I hi k W ∧ s + 2 ≤ hi ∧ W.heap[s + 1]? = some (.loop r) ∧ W.heap[s]? = some (.deferred (some [])))
    (fun W => ∃ hi, Ix hi W ∧ s + 2 ≤ hi ∧ W.heap[s + 1]? = some (.loop { r with state := .done, pending := some (.exit ct) }) ∧ W.heap[s]? = some (.deferred (some [])))
    W1 (hb0.trans (hb1.mono hsz0)) (by omega) (by omega) ?_ ?_ ?_).mono ?_
  · intro W2 h2
    have hz2 := h2.size
    exact ⟨h0 W2 (hb1.trans (h2.mono hb1.size)), by omega, (h2.block _ (by omega)).trans hL, (h2.block _ (by omega)).trans hD⟩
  · rintro hi k A B ⟨hi1, hi2, hi3, hi4⟩ hk
    exact ⟨hI hi k A B hi1 (hk.weaken fun j hj => by omega), hi2, (hk.block _ (Array.getElem?_eq_some_iff.1 hi3).1 (fun e => by omega)).trans hi3, (hk.block _ (Array.getElem?_eq_some_iff.1 hi4).1 (fun e => by omega)).trans hi4⟩
  · rintro hi k A ⟨hi1, hi2, hi3, hi4⟩ hsz _ hkN
    have hlt := (Array.getElem?_eq_some_iff.1 hi3).1
    refine ⟨fn, _, assign, body, run_yield hi3 (hps k), roundIn_of_wpIn hfn (hassign _ k A _ ⟨_, run_beginRound hi3 rfl, ?_⟩)⟩
    obtain ⟨A1, hA1⟩ : ∃ A1, A1 = A.putObj (s + 1) (.loop { r with state := .busy }) := ⟨_, rfl⟩
    have kA : Kept (fun j => j = s + 1) A A1 := by rw [hA1]; exact kept_put _ _ _
    have lA : A1.heap[s + 1]? = some (.loop { r with state := .busy }) := by rw [hA1]; exact World.putObj_heap_same hlt
    have dA : A1.heap[s]? = some (.deferred (some [])) := (kA.block _ (by omega) (by omega)).trans hi4
    rw [← hA1]
    refine wpIn_mono (hbody (s + 1) hi k A1 (hI hi k A A1 hi1 (own kA (fun _ h => h) (by omega))) (by omega) (by omega) (Nat.le_trans hsz kA.size) hkN) ?_
    have fin : ∀ (jump : Option Code) (B : World), Kept (fun j => j = Pb ∨ hi ≤ j) A1 B →
        (Instr.endRound (s + 1) jump).run P B = .ok (.bool jump.isNone) (B.putObj (s + 1) (.loop { r with state := if jump.isNone then .ready else .done, pending := jump })) ∧
        (B.putObj (s + 1) (.loop { r with state := if jump.isNone then .ready else .done, pending := jump })).heap[s + 1]? = some (.loop { r with state := if jump.isNone then .ready else .done, pending := jump }) ∧
        (B.putObj (s + 1) (.loop { r with state := if jump.isNone then .ready else .done, pending := jump })).heap[s]? = some (.deferred (some [])) ∧
        Kept (fun j => j = Pb ∨ j = s + 1 ∨ hi ≤ j) A (B.putObj (s + 1) (.loop { r with state := if jump.isNone then .ready else .done, pending := jump })) := fun jump B hk => by
      have lB : B.heap[s + 1]? = some (.loop { r with state := .busy }) := (hk.block _ (Array.getElem?_eq_some_iff.1 lA).1 (fun e => by omega)).trans lA
      have dB : B.heap[s]? = some (.deferred (some [])) := (hk.block _ (Array.getElem?_eq_some_iff.1 dA).1 (fun e => by omega)).trans dA
      exact ⟨run_endRound (r := { r with state := .busy }) jump lB, World.putObj_heap_same (Array.getElem?_eq_some_iff.1 lB).1, (World.putObj_heap_other (by omega)).trans dB,
        ((kA.weaken (T := fun j => j = Pb ∨ j = s + 1 ∨ hi ≤ j) fun j h => .inr (.inl h)).trans (hk.weaken fun j h => h.imp id .inr)).trans ((kept_put B (s + 1) _).weaken fun j h => .inr (.inl h))⟩
    rintro e a3 B hp
    cases e with
    | normal =>
      obtain ⟨hk, hi5⟩ := hp
      obtain ⟨f1, f2, f3, f4⟩ := fin none B hk
      exact ⟨_, _, f1, .inl ⟨rfl, ⟨hI hi _ B _ hi5 (own (kept_put B (s + 1) _) (fun _ h => h) (by omega)), hi2, f2, f3⟩, f4⟩⟩
    | exit id =>
      obtain ⟨rfl, hk, hi5⟩ := hp
      obtain ⟨f1, f2, f3, f4⟩ := fin (some (.exit id)) B hk
      exact ⟨_, _, f1, .inr ⟨rfl, hi, hIx hi B _ hi5 (own (kept_put B (s + 1) _) (fun _ h => h) (by omega)), hi2, f2, f3⟩⟩
    | ret => exact hp.elim
    | goto t => exact hp.elim
    | panic ch => exact hp.elim
    | outgrown => exact hp.elim
  · rintro e W2 ⟨⟨v, rfl⟩, (⟨hi, _, h2, h3, h4, h5⟩ | ⟨hi, h2, h3, h4, h5⟩)⟩
    · exact ⟨none, _, run_endLoop h4 (by simp [r]), hdone s hi _ (by omega) (by omega) (hI hi _ W2 _ h2 (own (kept_put W2 (s + 1) _) (fun _ h => h) (by omega))) ((World.putObj_heap_other (by omega)).trans h5)⟩
    · exact ⟨some (.exit ct), _, run_endLoop h4 (by simp), hstop s hi _ (by omega) (by omega) (hIx hi W2 _ h2 (own (kept_put W2 (s + 1) _) (fun _ h => h) (by omega))) ((World.putObj_heap_other (by omega)).trans h5)⟩
end Go.Proofs.YtcooapflofiolaaDoor

/- The walk through a map of texts: New, Next, Left. -/
namespace Go.Proofs.YtcooapflofiolaaDoor
set_option linter.unusedVariables false
theorem TR.drop {w : World} {n : Nat} {k : ByteArray} {l : List ByteArray} {b off : Nat} (h : TR w (some ⟨b, off, none⟩) (n + 1) (k :: l)) : TR w (some ⟨b, off + 1, none⟩) n l := by
  refine ⟨by have := h.1; simpa using this, ?_⟩
  obtain ⟨b', off', e, hc⟩ := h.2.resolve_left (by omega)
  injection e with e
  injection e with e1 e2
  subst e1 e2
  refine .inr ⟨b, off + 1, rfl, fun j hj => ?_⟩
  have := hc (j + 1) (by omega)
  rw [Nat.add_assoc, Nat.add_comm 1 j]
  simpa using this
theorem TR.kept {w w' : World} {S : Nat → Prop} {a : Option Addr} {n : Nat} {l : List ByteArray} (h : TR w a n l) (hk : Kept S w w') (hs : ∀ b off, a = some ⟨b, off, none⟩ → ¬ S b) : TR w' a n l := by
  refine ⟨h.1, ?_⟩
  rcases h.2 with h0 | ⟨b, off, e, hc⟩
  · exact .inl h0
  · exact .inr ⟨b, off, e, fun j hj => kept_cell hk (hc j hj) (hs b off e)⟩
end Go.Proofs.YtcooapflofiolaaDoor
namespace Go.Proofs.YtcooapflofiolaaDoor.MS
open Go Go.RowKit Go.Shelf
set_option linter.unusedVariables false
set_option linter.unusedSimpArgs false
set_option maxRecDepth 100000
set_option maxHeartbeats 4000000
theorem frozen_cells {w : World} {b i : Nat} {C : Array Value} {t : TypeId} (h : w.heap[b]? = some (.cells C t (0, 0))) : w.frozen? ⟨b, i, none⟩ = false := by
  unfold World.frozen?; simp [h]
/-- A walk in memory: the map it goes through, and the keys that are ahead; all of it at or above a block. -/
def Wk (w : World) (wl b : Nat) (pb : Nat) (l : List ByteArray) : Prop := ∃ a c, w.heap[b]? = some (.cells #[.pointer (some ⟨pb, 0, none⟩), .slice a l.length c] 119 (0, 0)) ∧ TR w a l.length l ∧ l.length ≤ c ∧ (∀ g off, a = some ⟨g, off, none⟩ → wl ≤ g ∧ g ≠ b) ∧ wl ≤ b
theorem Wk.kept {w w' : World} {S : Nat → Prop} {wl b pb : Nat} {l : List ByteArray} (h : Wk w wl b pb l) (hk : Kept S w w') (hs : ∀ j, wl ≤ j → ¬ S j) : Wk w' wl b pb l := by
  obtain ⟨a, c, h1, h2, h3, h4, h5⟩ := h
  exact ⟨a, c, (hk.block b (Array.getElem?_eq_some_iff.1 h1).1 (hs b h5)).trans h1, h2.kept hk (fun g off e => hs g (h4 g off e).1), h3, h4, h5⟩
theorem Wk.below {w w' : World} {wl b pb : Nat} {l : List ByteArray} (h : Wk w wl b pb l) (hb : Below w.heap.size w w') : Wk w' wl b pb l :=
  h.kept (Kept.of (S := fun _ => False) hb (Nat.le_refl _)) (fun _ _ h => h)
theorem wnew_any (p : Pl) (k0 k1 : BitVec 64) (m : Mp VT) (w : World) (h : At w p k0 k1 m) (I : MInv (hashN k0 k1) m) :
    Calls Tryd.prog 24 #[.pointer (some ⟨p.b, 0, none⟩)] w fun e w' => ∃ b, e = .returned (.pointer (some ⟨b, 0, none⟩)) ∧ Wk w' w.heap.size b p.b (keysL m) ∧ Below w.heap.size w w' := by
  have HK := Lib.hid (keys_any p k0 k1 m w h I)
  have HKL : Hid ((keysL m).length = m.n) := by show _ = _; unfold keysL; rw [List.length_map, full_len I]
  clear h I
  go_enter Tryd.func24, Tryd.ntmps24
  go_wp2_with fail
  refine HK.out.mono ?_
  rintro e w1 ⟨v, rfl, hv, hb⟩
  obtain ⟨a, c, rfl, hc⟩ := own_val hv
  have HV := Lib.hid hv
  have HB := Lib.hid hb
  clear hv hb
  go_wp2
  go_ret
  refine ⟨w1.heap.size, rfl, ⟨a, c, by rw [HKL.out]; exact heap_alloc_new w1 _, ?_, by rw [HKL.out]; exact hc, ?_, HB.out.size⟩, HB.out.alloc HB.out.size _⟩
  · rw [HKL.out]
    refine ⟨HKL.out, ?_⟩
    rcases Nat.eq_zero_or_pos m.n with h0 | h0
    · exact .inl h0
    · obtain ⟨g, cap, e, _, _, hg, hcell⟩ := own_read HV.out h0
      injection e with e1 _ _
      subst e1
      refine .inr ⟨g, 0, rfl, fun j hj => ?_⟩
      have hj' : j < (keysL m).length := by rw [HKL.out]; exact hj
      have := hcell j (.string ((keysL m).getD j default)) (by simp [textsV, hj'])
      rw [Nat.zero_add]
      exact low_cell ((Below.refl _ w1).alloc (Nat.le_refl _) _) (Nat.le_refl _) this
  · intro g off e
    rcases HV.out.2 with ⟨h1, _⟩ | ⟨g', cap, cur, h1, h2, h3, h4⟩
    · injection h1 with h1 _ _; rw [h1] at e; cases e
    · injection h1 with h1 _ _
      rw [h1] at e
      injection e with e
      injection e with e _
      subst e
      exact ⟨h2, Nat.ne_of_lt (Array.getElem?_eq_some_iff.1 h3).1⟩
theorem left_any (wl b pb : Nat) (l : List ByteArray) (w : World) (h : Wk w wl b pb l) :
    Calls Tryd.prog 29 #[.pointer (some ⟨b, 0, none⟩)] w fun e w' => e = .returned (.int .i64 (l.length : Nat)) ∧ w = w' := by
  obtain ⟨a, c, h1, _⟩ := h
  have c1 : w.cell? ⟨b, 1, none⟩ = some (.slice a l.length c) := by unfold World.cell?; simp [h1]
  clear h1
  go_enter Tryd.func29, Tryd.ntmps29
  go_wp2
  go_ret
  exact ⟨rfl, rfl⟩
def aheadOf (b : Nat) (w : World) : Nat := match w.cell? ⟨b, 1, none⟩ with | some (.slice _ n _) => n | _ => 0
/-- What Next answers, and the keys that are then ahead. -/
def nextL (H : ByteArray → Nat) (m : Mp VT) : List ByteArray → (ByteArray × VT × Bool) × List ByteArray
  | [] => ((ByteArray.empty, default, false), [])
  | k :: r => if (getV H m k).2 then ((k, (getV H m k).1, true), r) else nextL H m r
theorem next_any (p : Pl) (k0 k1 : BitVec 64) (m : Mp VT) (b : Nat) (l : List ByteArray) (w : World) (lo : Nat) (h : Live w lo p k0 k1 m) (wl : Nat) (hw : Wk w wl b p.b l) (hk : ∀ k, k ∈ l → k.size ≤ maxLen) (hb : ¬ p.own b) (h0 : 0 < b) :
    Calls Tryd.prog 27 #[.pointer (some ⟨b, 0, none⟩)] w fun e w' => e = .returned (.tuple #[.string (nextL (hashN k0 k1) m l).1.1, val (nextL (hashN k0 k1) m l).1.2.1, .bool (nextL (hashN k0 k1) m l).1.2.2]) ∧ Wk w' wl b p.b (nextL (hashN k0 k1) m l).2 ∧ Kept (· = b) w w' := by
  have HL := Lib.hid h
  have HW := Lib.hid hw
  have HKS := Lib.hid hk
  have HNB := Lib.hid hb
  clear h hw hk hb
  go_enter Tryd.func27, Tryd.ntmps27
  go_wp2
  go_loopw [3] (fun s wr => s = .string ByteArray.empty ∧ ∃ l', Wk wr wl b p.b l' ∧ nextL (hashN k0 k1) m l' = nextL (hashN k0 k1) m l ∧ (∀ k, k ∈ l' → k ∈ l) ∧ Kept (· = b) w wr) (fun _ wr => aheadOf b wr)
  case atStart => exact ⟨rfl, l, HW.out, rfl, fun k h => h, Kept.refl _ _⟩
  case round =>
    obtain ⟨rfl, l', hw', hn, hsub, hK⟩ := hrel
    have HN := Lib.hid hn
    have HSUB := Lib.hid hsub
    have HK := Lib.hid hK
    obtain ⟨a, c, h1, h2, h3, h4, h5⟩ := hw'
    have c0 : wr.cell? ⟨b, 0, none⟩ = some (.pointer (some ⟨p.b, 0, none⟩)) := by unfold World.cell?; simp [h1]
    have c1 : wr.cell? ⟨b, 1, none⟩ = some (.slice a l'.length c) := by unfold World.cell?; simp [h1]
    have f1 : wr.frozen? ⟨b, 1, none⟩ = false := frozen_cells h1
    have H1 := Lib.hid h1
    clear hn hsub hK h1
    cases l' with
    | nil =>
      have HNE : Hid ((ByteArray.empty, default, false) = (nextL (hashN k0 k1) m l).1 ∧ ([] : List ByteArray) = (nextL (hashN k0 k1) m l).2) := by
        have := HN.out
        constructor
        · rw [← this]; rfl
        · rw [← this]; rfl
      have HW2 : Hid (Wk wr wl b p.b []) := ⟨a, c, H1.out, h2, h3, h4, h5⟩
      clear h2 h3 h4
      go_wp2
      refine bodyPost_ret (v := .tuple #[.string ByteArray.empty, val default, .bool false]) ?_ rfl ⟨?_, ?_, HK.out⟩
      · simp [results, Tryd.results27, go_sem]; exact ⟨rfl, rfl⟩
      · rw [← HNE.out.1]
      · rw [← HNE.out.2]; exact HW2.out
    | cons k r =>
      obtain ⟨g, off, rfl, hc⟩ := h2.2.resolve_left (by simp)
      have x0 := hc 0 (by simp)
      rw [Nat.add_zero] at x0
      have x0' : wr.cell? ⟨g, off, none⟩ = some (.string k) := x0
      obtain ⟨hgl, hgb⟩ := h4 g off rfl
      have HTR := Lib.hid h2
      have hkz := HKS.out k (HSUB.out k (List.mem_cons_self ..))
      have hr : r.length + 1 ≤ c := h3
      by_cases hc1 : c = 1
      · subst hc1
        obtain rfl : r = [] := List.length_eq_zero_iff.1 (by omega)
        obtain ⟨w2, hw2⟩ : ∃ w2, w2 = wr.setCell ⟨b, 1, none⟩ (.slice (some ⟨g, off, none⟩) 0 (0)) := ⟨_, rfl⟩
        have K2 : Hid (Kept (· = b) w w2) := by rw [hw2]; exact HK.out.setCell (p := ⟨b, 1, none⟩) (.inl rfl) _
        have KR : Hid (Kept (· = b) wr w2) := by rw [hw2]; exact (Kept.refl (· = b) wr).setCell (p := ⟨b, 1, none⟩) (.inl rfl) _
        have h12 : w2.heap[b]? = some (.cells #[.pointer (some ⟨p.b, 0, none⟩), .slice (some ⟨g, off, none⟩) 0 (0)] 119 (0, 0)) := by
          rw [hw2]; exact heap_setCell_same _ _ 1 _ _ _ H1.out
        have W2 : Hid (Wk w2 wl b p.b ([] : List ByteArray)) := ⟨_, _, h12, ⟨rfl, .inl (by omega)⟩, by omega, fun g' off' e => by injection e with e; injection e with e _; subst e; exact ⟨hgl, hgb⟩, h5⟩
        have L2 : Hid (Live w2 lo p k0 k1 m) := HL.out.kept K2.out (fun j hj e => HNB.out (e ▸ hj)) (fun e => by omega)
        have HGE := Lib.hid (get_any p k0 k1 m k hkz w2 L2.out.at_ L2.out.inv)
        have d0 : w2.cell? ⟨b, 0, none⟩ = some (.pointer (some ⟨p.b, 0, none⟩)) := by unfold World.cell?; simp [h12]
        have HW2 := Lib.hid hw2
        have hm1 : aheadOf b wr = 1 := by unfold aheadOf; rw [c1]; rfl
        have HM1 := Lib.hid hm1
        clear hc x0 h2 h12 hw2 hgb hkz hm1
        go_upto_region 4 with fail
        rw [← HW2.out]
        cases hg : (getV (hashN k0 k1) m k).2 with
        | true =>
          rw [hg] at HGE
          have HNE : Hid ((k, (getV (hashN k0 k1) m k).1, true) = (nextL (hashN k0 k1) m l).1 ∧ ([] : List ByteArray) = (nextL (hashN k0 k1) m l).2) := by
            have := HN.out
            constructor
            · rw [← this]; unfold nextL; rw [if_pos hg]
            · rw [← this]; unfold nextL; rw [if_pos hg]
          clear hg
          go_wp2_with fail
          refine HGE.out.mono ?_
          rintro e w3 ⟨rfl, hb3⟩
          have HB3 := Lib.hid hb3
          clear hb3
          go_wp2
          refine bodyPost_ret (v := .tuple #[.string k, val (getV (hashN k0 k1) m k).1, .bool true]) ?_ rfl ⟨?_, ?_, K2.out.bl HB3.out K2.out.size⟩
          · simp [results, Tryd.results27, go_sem]
          · rw [← HNE.out.1]
          · rw [← HNE.out.2]; exact W2.out.below HB3.out
        | false =>
          rw [hg] at HGE
          have HNE : Hid (nextL (hashN k0 k1) m ([] : List ByteArray) = nextL (hashN k0 k1) m l) := by
            have := HN.out
            show _ = _
            rw [← this]
            conv => rhs; unfold nextL
            rw [if_neg (by rw [hg]; decide)]
          clear hg
          go_wp2_with fail
          refine HGE.out.mono ?_
          rintro e w3 ⟨rfl, hb3⟩
          have HB3 := Lib.hid hb3
          have W3 : Hid (Wk w3 wl b p.b ([] : List ByteArray)) := W2.out.below HB3.out
          have hm3 : aheadOf b w3 = 0 := by
            obtain ⟨a', c', h, _⟩ := W3.out
            have : w3.cell? ⟨b, 1, none⟩ = some (.slice a' 0 c') := by unfold World.cell?; simp [h]
            unfold aheadOf; rw [this]
          have HM3 := Lib.hid hm3
          clear hb3 hm3
          go_wp2
          go_roundw
          case rel => exact ⟨rfl, ([] : List ByteArray), W3.out, HNE.out, fun u hu => HSUB.out u (List.mem_cons_of_mem _ hu), K2.out.bl HB3.out K2.out.size⟩
          case measure => rw [HM1.out, HM3.out]; omega
      · have hc1' : (c == 1) = false := by simpa using hc1
        obtain ⟨w2, hw2⟩ : ∃ w2, w2 = wr.setCell ⟨b, 1, none⟩ (.slice (some ⟨g, off + 1, none⟩) r.length (c - 1)) := ⟨_, rfl⟩
        have K2 : Hid (Kept (· = b) w w2) := by rw [hw2]; exact HK.out.setCell (p := ⟨b, 1, none⟩) (.inl rfl) _
        have KR : Hid (Kept (· = b) wr w2) := by rw [hw2]; exact (Kept.refl (· = b) wr).setCell (p := ⟨b, 1, none⟩) (.inl rfl) _
        have h12 : w2.heap[b]? = some (.cells #[.pointer (some ⟨p.b, 0, none⟩), .slice (some ⟨g, off + 1, none⟩) r.length (c - 1)] 119 (0, 0)) := by
          rw [hw2]; exact heap_setCell_same _ _ 1 _ _ _ H1.out
        have W2 : Hid (Wk w2 wl b p.b r) := ⟨_, _, h12, (HTR.out.drop).kept KR.out (fun b' off' e => by injection e with e; injection e with e _; subst e; exact hgb), by omega, fun g' off' e => by injection e with e; injection e with e _; subst e; exact ⟨hgl, hgb⟩, h5⟩
        have L2 : Hid (Live w2 lo p k0 k1 m) := HL.out.kept K2.out (fun j hj e => HNB.out (e ▸ hj)) (fun e => by omega)
        have HGE := Lib.hid (get_any p k0 k1 m k hkz w2 L2.out.at_ L2.out.inv)
        have d0 : w2.cell? ⟨b, 0, none⟩ = some (.pointer (some ⟨p.b, 0, none⟩)) := by unfold World.cell?; simp [h12]
        have hlen : (1 : Int) ≤ (r.length : Int) + 1 := by omega
        have hcc2 : (r.length : Int) + 1 ≤ (c : Int) := by omega
        have HW2 := Lib.hid hw2
        have hm1 : aheadOf b wr = r.length + 1 := by unfold aheadOf; rw [c1]; rfl
        have HM1 := Lib.hid hm1
        clear hc x0 h2 h12 hw2 hgb hkz hm1
        go_upto_region 4 with fail
        rw [← HW2.out]
        cases hg : (getV (hashN k0 k1) m k).2 with
        | true =>
          rw [hg] at HGE
          have HNE : Hid ((k, (getV (hashN k0 k1) m k).1, true) = (nextL (hashN k0 k1) m l).1 ∧ r = (nextL (hashN k0 k1) m l).2) := by
            have := HN.out
            constructor
            · rw [← this]; unfold nextL; rw [if_pos hg]
            · rw [← this]; unfold nextL; rw [if_pos hg]
          clear hg
          go_wp2_with fail
          refine HGE.out.mono ?_
          rintro e w3 ⟨rfl, hb3⟩
          have HB3 := Lib.hid hb3
          clear hb3
          go_wp2
          refine bodyPost_ret (v := .tuple #[.string k, val (getV (hashN k0 k1) m k).1, .bool true]) ?_ rfl ⟨?_, ?_, K2.out.bl HB3.out K2.out.size⟩
          · simp [results, Tryd.results27, go_sem]
          · rw [← HNE.out.1]
          · rw [← HNE.out.2]; exact W2.out.below HB3.out
        | false =>
          rw [hg] at HGE
          have HNE : Hid (nextL (hashN k0 k1) m r = nextL (hashN k0 k1) m l) := by
            have := HN.out
            show _ = _
            rw [← this]
            conv => rhs; unfold nextL
            rw [if_neg (by rw [hg]; decide)]
          clear hg
          go_wp2_with fail
          refine HGE.out.mono ?_
          rintro e w3 ⟨rfl, hb3⟩
          have HB3 := Lib.hid hb3
          have W3 : Hid (Wk w3 wl b p.b r) := W2.out.below HB3.out
          have hm3 : aheadOf b w3 = r.length := by
            obtain ⟨a', c', h, _⟩ := W3.out
            have : w3.cell? ⟨b, 1, none⟩ = some (.slice a' r.length c') := by unfold World.cell?; simp [h]
            unfold aheadOf; rw [this]
          have HM3 := Lib.hid hm3
          clear hb3 hm3
          go_wp2
          go_roundw
          case rel => exact ⟨rfl, r, W3.out, HNE.out, fun u hu => HSUB.out u (List.mem_cons_of_mem _ hu), K2.out.bl HB3.out K2.out.size⟩
          case measure => rw [HM1.out, HM3.out]; omega
end Go.Proofs.YtcooapflofiolaaDoor.MS

/- The walk through a map of texts, its blocks told by a predicate (a program made this out of WkS). -/
namespace Go.Proofs.YtcooapflofiolaaDoor.MS
open Go Go.RowKit Go.Shelf
set_option linter.unusedVariables false
set_option linter.unusedSimpArgs false
set_option maxRecDepth 100000
set_option maxHeartbeats 4000000
/-- A walk in memory: the map it goes through, and the keys that are ahead; all of it at or above a block. -/
def Wr (w : World) (R : Nat → Prop) (b : Nat) (pb : Nat) (l : List ByteArray) : Prop := ∃ a c, w.heap[b]? = some (.cells #[.pointer (some ⟨pb, 0, none⟩), .slice a l.length c] 119 (0, 0)) ∧ TR w a l.length l ∧ l.length ≤ c ∧ (∀ g off, a = some ⟨g, off, none⟩ → R g ∧ g ≠ b) ∧ R b
theorem Wr.kept {w w' : World} {S : Nat → Prop} {R : Nat → Prop} {b pb : Nat} {l : List ByteArray} (h : Wr w R b pb l) (hk : Kept S w w') (hs : ∀ j, R j → ¬ S j) : Wr w' R b pb l := by
  obtain ⟨a, c, h1, h2, h3, h4, h5⟩ := h
  exact ⟨a, c, (hk.block b (Array.getElem?_eq_some_iff.1 h1).1 (hs b h5)).trans h1, h2.kept hk (fun g off e => hs g (h4 g off e).1), h3, h4, h5⟩
theorem Wr.below {w w' : World} {R : Nat → Prop} {b pb : Nat} {l : List ByteArray} (h : Wr w R b pb l) (hb : Below w.heap.size w w') : Wr w' R b pb l :=
  h.kept (Kept.of (S := fun _ => False) hb (Nat.le_refl _)) (fun _ _ h => h)
theorem wnew_r (p : Pl) (k0 k1 : BitVec 64) (m : Mp VT) (w : World) (h : At w p k0 k1 m) (I : MInv (hashN k0 k1) m) :
    Calls Tryd.prog 24 #[.pointer (some ⟨p.b, 0, none⟩)] w fun e w' => ∃ b, e = .returned (.pointer (some ⟨b, 0, none⟩)) ∧ Wr w' (fun j => w.heap.size ≤ j ∧ j < w'.heap.size) b p.b (keysL m) ∧ Below w.heap.size w w' := by
  have HK := Lib.hid (keys_any p k0 k1 m w h I)
  have HKL : Hid ((keysL m).length = m.n) := by show _ = _; unfold keysL; rw [List.length_map, full_len I]
  clear h I
  go_enter Tryd.func24, Tryd.ntmps24
  go_wp2_with fail
  refine HK.out.mono ?_
  rintro e w1 ⟨v, rfl, hv, hb⟩
  obtain ⟨a, c, rfl, hc⟩ := own_val hv
  have HV := Lib.hid hv
  have HB := Lib.hid hb
  clear hv hb
  go_wp2
  go_ret
  refine ⟨w1.heap.size, rfl, ⟨a, c, by rw [HKL.out]; exact heap_alloc_new w1 _, ?_, by rw [HKL.out]; exact hc, ?_, ⟨HB.out.size, by simp⟩⟩, HB.out.alloc HB.out.size _⟩
  · rw [HKL.out]
    refine ⟨HKL.out, ?_⟩
    rcases Nat.eq_zero_or_pos m.n with h0 | h0
    · exact .inl h0
    · obtain ⟨g, cap, e, _, _, hg, hcell⟩ := own_read HV.out h0
      injection e with e1 _ _
      subst e1
      refine .inr ⟨g, 0, rfl, fun j hj => ?_⟩
      have hj' : j < (keysL m).length := by rw [HKL.out]; exact hj
      have := hcell j (.string ((keysL m).getD j default)) (by simp [textsV, hj'])
      rw [Nat.zero_add]
      exact low_cell ((Below.refl _ w1).alloc (Nat.le_refl _) _) (Nat.le_refl _) this
  · intro g off e
    rcases HV.out.2 with ⟨h1, _⟩ | ⟨g', cap, cur, h1, h2, h3, h4⟩
    · injection h1 with h1 _ _; rw [h1] at e; cases e
    · injection h1 with h1 _ _
      rw [h1] at e
      injection e with e
      injection e with e _
      subst e
      have := (Array.getElem?_eq_some_iff.1 h3).1
      exact ⟨⟨h2, by simp; omega⟩, Nat.ne_of_lt this⟩
theorem left_r (R : Nat → Prop) (b pb : Nat) (l : List ByteArray) (w : World) (h : Wr w R b pb l) :
    Calls Tryd.prog 29 #[.pointer (some ⟨b, 0, none⟩)] w fun e w' => e = .returned (.int .i64 (l.length : Nat)) ∧ w = w' := by
  obtain ⟨a, c, h1, _⟩ := h
  have c1 : w.cell? ⟨b, 1, none⟩ = some (.slice a l.length c) := by unfold World.cell?; simp [h1]
  clear h1
  go_enter Tryd.func29, Tryd.ntmps29
  go_wp2
  go_ret
  exact ⟨rfl, rfl⟩
theorem next_r (p : Pl) (k0 k1 : BitVec 64) (m : Mp VT) (b : Nat) (l : List ByteArray) (w : World) (lo : Nat) (h : Live w lo p k0 k1 m) (R : Nat → Prop) (hw : Wr w R b p.b l) (hk : ∀ k, k ∈ l → k.size ≤ maxLen) (hb : ¬ p.own b) (h0 : 0 < b) :
    Calls Tryd.prog 27 #[.pointer (some ⟨b, 0, none⟩)] w fun e w' => e = .returned (.tuple #[.string (nextL (hashN k0 k1) m l).1.1, val (nextL (hashN k0 k1) m l).1.2.1, .bool (nextL (hashN k0 k1) m l).1.2.2]) ∧ Wr w' R b p.b (nextL (hashN k0 k1) m l).2 ∧ Kept (· = b) w w' := by
  have HL := Lib.hid h
  have HW := Lib.hid hw
  have HKS := Lib.hid hk
  have HNB := Lib.hid hb
  clear h hw hk hb
  go_enter Tryd.func27, Tryd.ntmps27
  go_wp2
  go_loopw [3] (fun s wr => s = .string ByteArray.empty ∧ ∃ l', Wr wr R b p.b l' ∧ nextL (hashN k0 k1) m l' = nextL (hashN k0 k1) m l ∧ (∀ k, k ∈ l' → k ∈ l) ∧ Kept (· = b) w wr) (fun _ wr => aheadOf b wr)
  case atStart => exact ⟨rfl, l, HW.out, rfl, fun k h => h, Kept.refl _ _⟩
  case round =>
    obtain ⟨rfl, l', hw', hn, hsub, hK⟩ := hrel
    have HN := Lib.hid hn
    have HSUB := Lib.hid hsub
    have HK := Lib.hid hK
    obtain ⟨a, c, h1, h2, h3, h4, h5⟩ := hw'
    have c0 : wr.cell? ⟨b, 0, none⟩ = some (.pointer (some ⟨p.b, 0, none⟩)) := by unfold World.cell?; simp [h1]
    have c1 : wr.cell? ⟨b, 1, none⟩ = some (.slice a l'.length c) := by unfold World.cell?; simp [h1]
    have f1 : wr.frozen? ⟨b, 1, none⟩ = false := frozen_cells h1
    have H1 := Lib.hid h1
    clear hn hsub hK h1
    cases l' with
    | nil =>
      have HNE : Hid ((ByteArray.empty, default, false) = (nextL (hashN k0 k1) m l).1 ∧ ([] : List ByteArray) = (nextL (hashN k0 k1) m l).2) := by
        have := HN.out
        constructor
        · rw [← this]; rfl
        · rw [← this]; rfl
      have HW2 : Hid (Wr wr R b p.b []) := ⟨a, c, H1.out, h2, h3, h4, h5⟩
      clear h2 h3 h4
      go_wp2
      refine bodyPost_ret (v := .tuple #[.string ByteArray.empty, val default, .bool false]) ?_ rfl ⟨?_, ?_, HK.out⟩
      · simp [results, Tryd.results27, go_sem]; exact ⟨rfl, rfl⟩
      · rw [← HNE.out.1]
      · rw [← HNE.out.2]; exact HW2.out
    | cons k r =>
      obtain ⟨g, off, rfl, hc⟩ := h2.2.resolve_left (by simp)
      have x0 := hc 0 (by simp)
      rw [Nat.add_zero] at x0
      have x0' : wr.cell? ⟨g, off, none⟩ = some (.string k) := x0
      obtain ⟨hgl, hgb⟩ := h4 g off rfl
      have HTR := Lib.hid h2
      have hkz := HKS.out k (HSUB.out k (List.mem_cons_self ..))
      have hr : r.length + 1 ≤ c := h3
      by_cases hc1 : c = 1
      · subst hc1
        obtain rfl : r = [] := List.length_eq_zero_iff.1 (by omega)
        obtain ⟨w2, hw2⟩ : ∃ w2, w2 = wr.setCell ⟨b, 1, none⟩ (.slice (some ⟨g, off, none⟩) 0 (0)) := ⟨_, rfl⟩
        have K2 : Hid (Kept (· = b) w w2) := by rw [hw2]; exact HK.out.setCell (p := ⟨b, 1, none⟩) (.inl rfl) _
        have KR : Hid (Kept (· = b) wr w2) := by rw [hw2]; exact (Kept.refl (· = b) wr).setCell (p := ⟨b, 1, none⟩) (.inl rfl) _
        have h12 : w2.heap[b]? = some (.cells #[.pointer (some ⟨p.b, 0, none⟩), .slice (some ⟨g, off, none⟩) 0 (0)] 119 (0, 0)) := by
          rw [hw2]; exact heap_setCell_same _ _ 1 _ _ _ H1.out
        have W2 : Hid (Wr w2 R b p.b ([] : List ByteArray)) := ⟨_, _, h12, ⟨rfl, .inl (by omega)⟩, by omega, fun g' off' e => by injection e with e; injection e with e _; subst e; exact ⟨hgl, hgb⟩, h5⟩
        have L2 : Hid (Live w2 lo p k0 k1 m) := HL.out.kept K2.out (fun j hj e => HNB.out (e ▸ hj)) (fun e => by omega)
        have HGE := Lib.hid (get_any p k0 k1 m k hkz w2 L2.out.at_ L2.out.inv)
        have d0 : w2.cell? ⟨b, 0, none⟩ = some (.pointer (some ⟨p.b, 0, none⟩)) := by unfold World.cell?; simp [h12]
        have HW2 := Lib.hid hw2
        have hm1 : aheadOf b wr = 1 := by unfold aheadOf; rw [c1]; rfl
        have HM1 := Lib.hid hm1
        clear hc x0 h2 h12 hw2 hgb hkz hm1
        go_upto_region 4 with fail
        rw [← HW2.out]
        cases hg : (getV (hashN k0 k1) m k).2 with
        | true =>
          rw [hg] at HGE
          have HNE : Hid ((k, (getV (hashN k0 k1) m k).1, true) = (nextL (hashN k0 k1) m l).1 ∧ ([] : List ByteArray) = (nextL (hashN k0 k1) m l).2) := by
            have := HN.out
            constructor
            · rw [← this]; unfold nextL; rw [if_pos hg]
            · rw [← this]; unfold nextL; rw [if_pos hg]
          clear hg
          go_wp2_with fail
          refine HGE.out.mono ?_
          rintro e w3 ⟨rfl, hb3⟩
          have HB3 := Lib.hid hb3
          clear hb3
          go_wp2
          refine bodyPost_ret (v := .tuple #[.string k, val (getV (hashN k0 k1) m k).1, .bool true]) ?_ rfl ⟨?_, ?_, K2.out.bl HB3.out K2.out.size⟩
          · simp [results, Tryd.results27, go_sem]
          · rw [← HNE.out.1]
          · rw [← HNE.out.2]; exact W2.out.below HB3.out
        | false =>
          rw [hg] at HGE
          have HNE : Hid (nextL (hashN k0 k1) m ([] : List ByteArray) = nextL (hashN k0 k1) m l) := by
            have := HN.out
            show _ = _
            rw [← this]
            conv => rhs; unfold nextL
            rw [if_neg (by rw [hg]; decide)]
          clear hg
          go_wp2_with fail
          refine HGE.out.mono ?_
          rintro e w3 ⟨rfl, hb3⟩
          have HB3 := Lib.hid hb3
          have W3 : Hid (Wr w3 R b p.b ([] : List ByteArray)) := W2.out.below HB3.out
          have hm3 : aheadOf b w3 = 0 := by
            obtain ⟨a', c', h, _⟩ := W3.out
            have : w3.cell? ⟨b, 1, none⟩ = some (.slice a' 0 c') := by unfold World.cell?; simp [h]
            unfold aheadOf; rw [this]
          have HM3 := Lib.hid hm3
          clear hb3 hm3
          go_wp2
          go_roundw
          case rel => exact ⟨rfl, ([] : List ByteArray), W3.out, HNE.out, fun u hu => HSUB.out u (List.mem_cons_of_mem _ hu), K2.out.bl HB3.out K2.out.size⟩
          case measure => rw [HM1.out, HM3.out]; omega
      · have hc1' : (c == 1) = false := by simpa using hc1
        obtain ⟨w2, hw2⟩ : ∃ w2, w2 = wr.setCell ⟨b, 1, none⟩ (.slice (some ⟨g, off + 1, none⟩) r.length (c - 1)) := ⟨_, rfl⟩
        have K2 : Hid (Kept (· = b) w w2) := by rw [hw2]; exact HK.out.setCell (p := ⟨b, 1, none⟩) (.inl rfl) _
        have KR : Hid (Kept (· = b) wr w2) := by rw [hw2]; exact (Kept.refl (· = b) wr).setCell (p := ⟨b, 1, none⟩) (.inl rfl) _
        have h12 : w2.heap[b]? = some (.cells #[.pointer (some ⟨p.b, 0, none⟩), .slice (some ⟨g, off + 1, none⟩) r.length (c - 1)] 119 (0, 0)) := by
          rw [hw2]; exact heap_setCell_same _ _ 1 _ _ _ H1.out
        have W2 : Hid (Wr w2 R b p.b r) := ⟨_, _, h12, (HTR.out.drop).kept KR.out (fun b' off' e => by injection e with e; injection e with e _; subst e; exact hgb), by omega, fun g' off' e => by injection e with e; injection e with e _; subst e; exact ⟨hgl, hgb⟩, h5⟩
        have L2 : Hid (Live w2 lo p k0 k1 m) := HL.out.kept K2.out (fun j hj e => HNB.out (e ▸ hj)) (fun e => by omega)
        have HGE := Lib.hid (get_any p k0 k1 m k hkz w2 L2.out.at_ L2.out.inv)
        have d0 : w2.cell? ⟨b, 0, none⟩ = some (.pointer (some ⟨p.b, 0, none⟩)) := by unfold World.cell?; simp [h12]
        have hlen : (1 : Int) ≤ (r.length : Int) + 1 := by omega
        have hcc2 : (r.length : Int) + 1 ≤ (c : Int) := by omega
        have HW2 := Lib.hid hw2
        have hm1 : aheadOf b wr = r.length + 1 := by unfold aheadOf; rw [c1]; rfl
        have HM1 := Lib.hid hm1
        clear hc x0 h2 h12 hw2 hgb hkz hm1
        go_upto_region 4 with fail
        rw [← HW2.out]
        cases hg : (getV (hashN k0 k1) m k).2 with
        | true =>
          rw [hg] at HGE
          have HNE : Hid ((k, (getV (hashN k0 k1) m k).1, true) = (nextL (hashN k0 k1) m l).1 ∧ r = (nextL (hashN k0 k1) m l).2) := by
            have := HN.out
            constructor
            · rw [← this]; unfold nextL; rw [if_pos hg]
            · rw [← this]; unfold nextL; rw [if_pos hg]
          clear hg
          go_wp2_with fail
          refine HGE.out.mono ?_
          rintro e w3 ⟨rfl, hb3⟩
          have HB3 := Lib.hid hb3
          clear hb3
          go_wp2
          refine bodyPost_ret (v := .tuple #[.string k, val (getV (hashN k0 k1) m k).1, .bool true]) ?_ rfl ⟨?_, ?_, K2.out.bl HB3.out K2.out.size⟩
          · simp [results, Tryd.results27, go_sem]
          · rw [← HNE.out.1]
          · rw [← HNE.out.2]; exact W2.out.below HB3.out
        | false =>
          rw [hg] at HGE
          have HNE : Hid (nextL (hashN k0 k1) m r = nextL (hashN k0 k1) m l) := by
            have := HN.out
            show _ = _
            rw [← this]
            conv => rhs; unfold nextL
            rw [if_neg (by rw [hg]; decide)]
          clear hg
          go_wp2_with fail
          refine HGE.out.mono ?_
          rintro e w3 ⟨rfl, hb3⟩
          have HB3 := Lib.hid hb3
          have W3 : Hid (Wr w3 R b p.b r) := W2.out.below HB3.out
          have hm3 : aheadOf b w3 = r.length := by
            obtain ⟨a', c', h, _⟩ := W3.out
            have : w3.cell? ⟨b, 1, none⟩ = some (.slice a' r.length c') := by unfold World.cell?; simp [h]
            unfold aheadOf; rw [this]
          have HM3 := Lib.hid hm3
          clear hb3 hm3
          go_wp2
          go_roundw
          case rel => exact ⟨rfl, r, W3.out, HNE.out, fun u hu => HSUB.out u (List.mem_cons_of_mem _ hu), K2.out.bl HB3.out K2.out.size⟩
          case measure => rw [HM1.out, HM3.out]; omega
end Go.Proofs.YtcooapflofiolaaDoor.MS

/- What SwissBounds needs of the plain map: the words' sums. -/
namespace Go.Proofs.YtcooapflofiolaaDoor
set_option linter.unusedSectionVars false
set_option linter.unusedVariables false
set_option linter.unusedSimpArgs false
theorem cnt_split (p : Nat → Bool) (a : Nat) : ∀ b, cnt p (a + b) = cnt p a + cnt (fun i => p (a + i)) b
  | 0 => rfl
  | b + 1 => by rw [← Nat.add_assoc, cnt, cnt, cnt_split p a b]; omega
theorem cntF_cnt (x : Nat) {p : Nat → Bool} (h : ∀ i, i < 8 → x.testBit i = p i) : cntF x = cnt p 8 := by
  unfold cntF; rw [cnt_filter]; exact cnt_congr h
section
variable {V : Type} [Inhabited V] {H : ByteArray → Nat} {m : Mp V}
def fulC (m : Mp V) (j : Nat) : Nat := cnt (fun i => decide (m.c i < 128)) (8 * j)
def freC (m : Mp V) (j : Nat) : Nat := cnt (fun i => m.c i == 128 || m.c i == 254) (8 * j)
def empC (m : Mp V) (j : Nat) : Nat := cnt (fun i => m.c i == 128) (8 * j)
theorem fulC_succ (m : Mp V) (j : Nat) : fulC m (j + 1) = fulC m j + cntF (ful (m.w j)) := by
  unfold fulC; rw [Nat.mul_add, Nat.mul_one, cnt_split, cntF_cnt (p := fun i => decide (m.c (8 * j + i) < 128)) _ (fun i hi => by rw [bit_ful _ _ hi, c_at m j hi])]
theorem freC_succ (m : Mp V) (j : Nat) : freC m (j + 1) = freC m j + cntF (fre (m.w j)) := by
  unfold freC; rw [Nat.mul_add, Nat.mul_one, cnt_split, cntF_cnt (p := fun i => m.c (8 * j + i) == 128 || m.c (8 * j + i) == 254) _ (fun i hi => by rw [bit_fre _ _ hi, c_at m j hi])]
theorem empC_succ (m : Mp V) (j : Nat) : empC m (j + 1) = empC m j + cntF (mch (m.w j) 128) := by
  unfold empC; rw [Nat.mul_add, Nat.mul_one, cnt_split, cntF_cnt (p := fun i => m.c (8 * j + i) == 128) _ (fun i hi => by rw [bit_mch _ _ _ hi, c_at m j hi])]
theorem sums_le (m : Mp V) (j : Nat) : fulC m j ≤ 8 * j ∧ freC m j ≤ 8 * j ∧ empC m j ≤ 8 * j := ⟨cnt_le _ _, cnt_le _ _, cnt_le _ _⟩
theorem cntF_le (x : Nat) : cntF x ≤ 8 := by
  unfold cntF; rw [cnt_filter]; exact cnt_le _ _
theorem sums_end (I : MInv H m) : fulC m m.ws.length = m.n ∧ freC m m.ws.length = empC m m.ws.length + m.tb := by
  refine ⟨I.cn.symm, ?_⟩
  unfold freC empC
  rw [I.ctb]
  refine cnt_add fun i _ => ?_
  show (m.c i == 128 || m.c i == 254).toNat = (m.c i == 128).toNat + (m.c i == 254).toNat
  by_cases h1 : m.c i = 128
  · rw [h1]; rfl
  · by_cases h2 : m.c i = 254
    · rw [h2]; rfl
    · rw [beq_false_of_ne h1, beq_false_of_ne h2]; rfl
end
end Go.Proofs.YtcooapflofiolaaDoor
namespace Go.Proofs.YtcooapflofiolaaDoor.MS
theorem key_at {w : World} {lo : Nat} {p : Pl} {k0 k1 : BitVec 64} {m : Mp VT} (h : Live w lo p k0 k1 m) {i : Nat} (hi : i < m.n) :
    ∃ s : ByteArray, (textsV (keysL m))[i]? = some (.string s) ∧ s = (keysL m).getD i default ∧ s.size ≤ maxLen ∧ (getV (hashN k0 k1) m s).2 = true ∧ Has m s (getV (hashN k0 k1) m s).1 := by
  have hl : (keysL m).length = m.n := by unfold keysL; rw [List.length_map, full_len h.inv]
  have hl2 : (fullL m).length = m.n := full_len h.inv
  have hi2 : i < (fullL m).length := by omega
  have hm : ((fullL m)[i].1, (fullL m)[i].2) ∈ fullL m := List.getElem_mem hi2
  have hh := mem_full.1 hm
  have hf := (find_has h.inv).1 ⟨_, hh⟩
  obtain ⟨x, hx⟩ := Option.ne_none_iff_exists'.1 hf
  have hg : getV (hashN k0 k1) m (fullL m)[i].1 = ((m.s x).2, true) := by unfold getV; rw [hx]
  refine ⟨(fullL m)[i].1, by simp [textsV, keysL, hi2], by simp [keysL, hi2], h.keys _ _ hh, by rw [hg], ?_⟩
  rw [hg]
  have := (find_val h.inv hx).1 hh
  rw [← this]; exact hh
theorem key_ne {w : World} {lo : Nat} {p : Pl} {k0 k1 : BitVec 64} {m : Mp VT} (h : Live w lo p k0 k1 m) {i j : Nat} (hi : i < m.n) (hj : j < i) : (keysL m).getD i default ≠ (keysL m).getD j default := by
  have hl2 : (fullL m).length = m.n := full_len h.inv
  have := List.pairwise_iff_getElem.1 (full_pair h.inv) j i (by omega) (by omega) hj
  intro e
  apply this
  have e1 : ∀ k (hk : k < (fullL m).length), (keysL m).getD k default = (fullL m)[k].1 := fun k hk => by simp [keysL, hk]
  rw [e1 i (by omega), e1 j (by omega)] at e
  exact e.symm
end Go.Proofs.YtcooapflofiolaaDoor.MS

/- lives of chapter 6: a walk over three keys. -/
namespace Go.Proofs.YtcooapflofiolaaDoor
section
variable {V : Type} [Inhabited V] {H : ByteArray → Nat} {m : Mp V}
set_option linter.unusedSectionVars false
theorem n_pos (I : MInv H m) {k : ByteArray} {v : V} (h : Has m k v) : 1 ≤ m.n := by
  rw [← full_len I]
  exact List.length_pos_of_mem (mem_full.2 h)
theorem put_n (I : MInv H m) (key : ByteArray) (v : V) (hn : m.n < 2000) : (put H m key v).n ≤ m.n + 1 ∧ 1 ≤ (put H m key v).n := by
  refine ⟨?_, n_pos (put_inv I key v) ((put_has I (.inl hn) key v).2 (by rw [if_pos rfl]))⟩
  cases hf : find H m key with
  | some x => rw [(put_some I hf).2.1]; omega
  | none => rw [(put_none I hf hn).2.1]; omega
end
end Go.Proofs.YtcooapflofiolaaDoor
namespace Go.Proofs.YtcooapflofiolaaDoor.MS
open Go Go.RowKit Go.Shelf
set_option linter.unusedVariables false
set_option linter.unusedSimpArgs false
set_option maxRecDepth 100000
set_option maxHeartbeats 4000000
section
variable {H : ByteArray → Nat} {m : Mp VT}
theorem getV_none (I : MInv H m) {k : ByteArray} (h : ∀ v, ¬ Has m k v) : (getV H m k).2 = false := by
  unfold getV
  cases hf : find H m k with
  | none => rfl
  | some x =>
    obtain ⟨v, hv⟩ := (find_has I).2 (by rw [hf]; simp)
    exact absurd hv (h v)
theorem nextL_none : ∀ {l : List ByteArray}, (∀ k, k ∈ l → (getV H m k).2 = false) → nextL H m l = ((ByteArray.empty, default, false), [])
  | [], _ => rfl
  | k :: r, h => by
    unfold nextL
    rw [if_neg (by rw [h k (List.mem_cons_self ..)]; decide)]
    exact nextL_none fun u hu => h u (List.mem_cons_of_mem _ hu)
theorem keysL_len (I : MInv H m) : (keysL m).length = m.n := by unfold keysL; rw [List.length_map, full_len I]
theorem mem_keysL {k : ByteArray} : k ∈ keysL m ↔ ∃ v, Has m k v := by
  unfold keysL
  rw [List.mem_map]
  constructor
  · rintro ⟨⟨k', v⟩, h, rfl⟩
    exact ⟨v, mem_full.1 h⟩
  · rintro ⟨v, h⟩
    exact ⟨(k, v), mem_full.2 h, rfl⟩
theorem keysL_nodup (I : MInv H m) : (keysL m).Nodup := by
  have := full_pair I
  unfold keysL List.Nodup
  rw [List.pairwise_map]
  exact this
theorem one_left (I : MInv H m) {m' : Mp VT} (I' : MInv H m') {k0 : ByteArray} (h0 : ∃ v, Has m k0 v) (h : ∀ k v, Has m' k v ↔ Has m k v ∧ k = k0) : m'.n = 1 := by
  obtain ⟨v, hv⟩ := h0
  have h1 := n_pos I' ((h k0 v).2 ⟨hv, rfl⟩)
  have hn := keysL_nodup I'
  have hl := keysL_len I'
  rcases hk : keysL m' with _ | ⟨a, _ | ⟨b, r⟩⟩
  · rw [hk] at hl; simp at hl; omega
  · rw [hk] at hl; simp at hl; omega
  · rw [hk] at hn
    have ha : a ∈ keysL m' := by rw [hk]; simp
    have hb : b ∈ keysL m' := by rw [hk]; simp
    obtain ⟨va, ha⟩ := mem_keysL.1 ha
    obtain ⟨vb, hb⟩ := mem_keysL.1 hb
    have e1 := ((h _ _).1 ha).2
    have e2 := ((h _ _).1 hb).2
    subst e1
    subst e2
    simp at hn
end
theorem wlives_any (w : World) (hS : Sh w) : Calls Tryd.prog 22 #[] w fun e w' => e = .returned (.bool true) ∧ Below w.heap.size w w' := by
  have HN := Lib.hid (new_live 0 0 0 w hS)
  rw [show Sip.U (0 : BitVec 64) = 0 from rfl] at HN
  have hneed : needF 0 = 1 := by rfl
  have hpos := Lib.hid (sh_pos hS)
  go_enter Tryd.func22, Tryd.ntmps22
  go_wp2_with fail
  refine HN.out.mono ?_
  rintro e w1 ⟨hb, ⟨h0, _⟩ | ⟨p, g, hg, rfl, hL⟩⟩
  · rw [hneed] at h0; cases h0
  rw [hneed] at hg
  obtain rfl : g = 1 := by omega
  have HL := Lib.hid hL
  have HB := Lib.hid hb
  clear hb hL hg hneed
  go_wp2
  go_loopw [16] (fun i wr => ∃ (k : Nat) (q : Pl) (m : Mp VT), k ≤ 3 ∧ i = .int .i64 k ∧ q.b = p.b ∧ Live wr w.heap.size q 0 0 m ∧ m.n ≤ k ∧ (1 ≤ k → 1 ≤ m.n) ∧ Below w.heap.size w wr) (fun i _ => 3 - (intOf i).toNat)
  case atStart => exact ⟨0, p, _, by omega, rfl, rfl, HL.out, Nat.le_refl _, by omega, HB.out⟩
  case round =>
    obtain ⟨k, q, m, hk, rfl, hq, hLq, hn, hn1, hB⟩ := hrel
    have HLq := Lib.hid hLq
    have HBr := Lib.hid hB
    have HQ := Lib.hid hq
    have HN1 := Lib.hid hn1
    clear hLq hB hq hn1
    by_cases hlt : k < 3
    · have hd : decide ((k : Int) < 3) = true := decide_eq_true (by omega)
      obtain ⟨key, hkey⟩ : ∃ key : ByteArray, key = ⟨#[UInt8.ofNat (97 + k)]⟩ := ⟨_, rfl⟩
      have hix : (Instr.index 111 (.agg #[.string ⟨#[97]⟩, .string ⟨#[98]⟩, .string ⟨#[99]⟩]) (.int .i64 k)).run Tryd.prog wr = .ok (.string key) wr := by
        rw [hkey]
        rcases (show k = 0 ∨ k = 1 ∨ k = 2 by omega) with rfl | rfl | rfl <;> simp [Instr.index, go_sem]
      have HPU := Lib.hid (put_live HLq.out key key (by rw [hkey]; exact (by decide : 1 ≤ maxLen)))
      obtain ⟨z1, z2⟩ := put_n HLq.out.inv key key (by omega)
      obtain ⟨m2, hm2⟩ : ∃ m2, m2 = put (hashN 0 0) m key key := ⟨_, rfl⟩
      rw [← hm2, HQ.out] at HPU
      rw [← hm2] at z1 z2
      clear hm2 hkey
      go_wp2_with fail
      refine HPU.out.mono ?_
      rintro e w2 ⟨rfl, q2, hq2, hL2, _, hK2⟩
      have L2 := Lib.hid hL2
      have B2 : Hid (Below w.heap.size w w2) := HBr.out.trans (HLq.out.low hK2)
      have HQ2 := Lib.hid (hq2.trans HQ.out)
      clear hL2 hK2 hq2
      go_wp2_with fail
      go_roundw
      case rel => exact ⟨k + 1, q2, m2, by omega, by go_num, HQ2.out, L2.out, by omega, fun _ => z2, B2.out⟩
      case measure => simp [intOf]; omega
    · obtain rfl : k = 3 := by omega
      have hn1 : 1 ≤ m.n := HN1.out (by omega)
      obtain ⟨wC, hwC⟩ : ∃ wC, wC = wr := ⟨_, rfl⟩
      rw [← hwC] at HLq HBr ⊢
      clear hwC
      have HQL : Hid (∀ j, q.own j → j < wC.heap.size) := fun j hj => HLq.out.at_.lt hj
      have HWN := Lib.hid (wnew_any q 0 0 m wC HLq.out.at_ HLq.out.inv)
      rw [HQ.out] at HWN
      obtain ⟨s0, e1, e2, e3, e4, e5⟩ := key_at HLq.out (i := 0) (by omega)
      obtain ⟨rest, hks⟩ : ∃ rest, keysL m = s0 :: rest := by
        have := keysL_len HLq.out.inv
        cases hk : keysL m with
        | nil => rw [hk] at this; simp at this; omega
        | cons a r => rw [hk] at e2; simp at e2; subst e2; exact ⟨r, rfl⟩
      have HNX : Hid (nextL (hashN 0 0) m (keysL m) = ((s0, (getV (hashN 0 0) m s0).1, true), rest)) := by
        show _ = _
        rw [hks]
        unfold nextL
        rw [if_pos e4]
      have HKS := Lib.hid hks
      have E5 : Hid (∃ v, Has m s0 v) := ⟨_, e5⟩
      clear e1 e2 e3 e4 e5 hks
      go_wp2_with fail
      refine HWN.out.mono ?_
      rintro e w4 ⟨b, rfl, hwk, hb4⟩
      have W4 : Hid (Wk w4 wC.heap.size b q.b (keysL m)) := by show Wk _ _ _ _ _; rw [HQ.out]; exact hwk
      have hbu : b < w4.heap.size := by obtain ⟨_, _, h, _⟩ := hwk; exact (Array.getElem?_eq_some_iff.1 h).1
      have HBU := Lib.hid hbu
      clear hbu
      have hbl : wC.heap.size ≤ b := by obtain ⟨_, _, _, _, _, _, h⟩ := hwk; exact h
      have L4 := Lib.hid (HLq.out.below (Nat.le_refl _) hb4)
      have B4 : Hid (Below w.heap.size w w4) := HBr.out.trans (hb4.mono HBr.out.size)
      have S4 : Hid (wC.heap.size ≤ w4.heap.size) := hb4.size
      have hwp := hpos.out
      have hwc := HBr.out.size
      have HNA := Lib.hid (next_any q 0 0 m b (keysL m) w4 w.heap.size L4.out wC.heap.size W4.out (fun k hk => by obtain ⟨v, hv⟩ := mem_keysL.1 hk; exact L4.out.keys k v hv) (fun h => by have := HQL.out b h; omega) (by omega))
      rw [HNX.out] at HNA
      obtain ⟨gv, hgv⟩ : ∃ gv, gv = (getV (hashN 0 0) m s0).1 := ⟨_, rfl⟩
      rw [← hgv] at HNA
      clear hwk hb4 hgv
      go_wp2_with fail
      refine HNA.out.mono ?_
      rintro e w5 ⟨rfl, hwk, hk5⟩
      have W5 := Lib.hid hwk
      have L5 : Hid (Live w5 w.heap.size q 0 0 m) := L4.out.kept hk5 (fun j hj e => by have := HQL.out j hj; omega) (fun e => by omega)
      have B5 : Hid (Below w.heap.size w w5) := B4.out.trans (hk5.below (by have := S4.out; omega) (fun j _ e => by omega))
      have S45 : Hid (w4.heap.size ≤ w5.heap.size) := hk5.size
      have S5 : Hid (wC.heap.size ≤ w5.heap.size) := Nat.le_trans S4.out hk5.size
      have HKE := Lib.hid (keys_any q 0 0 m w5 L5.out.at_ L5.out.inv)
      rw [HQ.out] at HKE
      clear hwk hk5
      go_wp2_with fail
      refine HKE.out.mono ?_
      rintro e w6 ⟨v, rfl, hv, hb6⟩
      obtain ⟨va, vc, rfl, hvc⟩ := own_val hv
      have VK := Lib.hid hv
      have L6 := Lib.hid (L5.out.below (Nat.le_refl _) hb6)
      have W6 := Lib.hid (W5.out.below hb6)
      have B6 : Hid (Below w.heap.size w w6) := B5.out.trans (hb6.mono B5.out.size)
      have S6 : Hid (wC.heap.size ≤ w6.heap.size) := Nat.le_trans S5.out hb6.size
      obtain ⟨n, hnn⟩ : ∃ n, n = m.n := ⟨_, rfl⟩
      have HNN := Lib.hid hnn
      have hn3 : n ≤ 3 := by omega
      have S56 : Hid (w4.heap.size ≤ w6.heap.size) := Nat.le_trans S45.out hb6.size
      rw [← hnn] at VK
      rw [← hnn]
      clear hv hvc hb6 hnn
      go_wp2
      go_loopw [35] (fun i wr => ∃ (j : Nat) (q2 : Pl) (m2 : Mp VT), j ≤ n ∧ i = .int .i64 j ∧ q2.b = p.b ∧ Live wr w.heap.size q2 0 0 m2 ∧ (∀ i, q2.own i → q.own i ∨ w6.heap.size ≤ i) ∧ Kept q.own w6 wr ∧ (∀ k v, Has m2 k v ↔ Has m k v ∧ (k = s0 ∨ ∀ i, i < j → k ≠ (keysL m).getD i default))) (fun i _ => n - (intOf i).toNat)
      case atStart => exact ⟨0, q, m, by omega, rfl, HQ.out, L6.out, fun i hi => .inl hi, Kept.refl _ _, fun k v => ⟨fun h => ⟨h, .inr fun i hi => by omega⟩, fun h => h.1⟩⟩
      case round =>
        obtain ⟨j, q2, m2, hj, rfl, hq2, hL2, ho2, hk2, hh2⟩ := hrel
        have HL2 := Lib.hid hL2
        have HO2 := Lib.hid ho2
        have HK2 := Lib.hid hk2
        have HH2 := Lib.hid hh2
        have HQ2 := Lib.hid hq2
        clear hL2 ho2 hk2 hh2 hq2
        have B7 : Hid (Below w.heap.size w wr) := B6.out.trans (HK2.out.below (by have := S6.out; omega) (fun i _ h => L6.out.own i h))
        have hqo : Hid (∀ i, wC.heap.size ≤ i → ¬ q.own i) := fun i hi h => by have := HQL.out i h; omega
        by_cases hlt : j < n
        · have hd2 : decide ((j : Int) < (n : Int)) = true := decide_eq_true (by omega)
          have hkn : (j : Int) < (n : Int) := by omega
          obtain ⟨gg, cap, hv, _, hgb1, _, hcells⟩ := own_read VK.out (by omega)
          injection hv with hva _ hvc'
          subst hva
          obtain ⟨s, e1, e2, e3, _⟩ := key_at HLq.out (i := j) (by rw [← HNN.out]; exact hlt)
          have x0 := kept_cell HK2.out (hcells _ _ e1) (hqo.out _ (Nat.le_trans S5.out hgb1))
          have HE2 := Lib.hid e2
          have HE3 := Lib.hid e3
          clear hcells e1 e2 e3 hvc'
          by_cases hs : s = s0
          · have hne : (s.toList == s0.toList) = true := by rw [beq_toList]; exact decide_eq_true hs
            have HS0 := Lib.hid hs
            clear hs
            go_wp2_with fail
            go_roundw
            case rel =>
              refine ⟨j + 1, q2, m2, by omega, by go_num, HQ2.out, HL2.out, HO2.out, HK2.out, fun k v => ?_⟩
              rw [HH2.out]
              refine and_congr_right fun _ => ⟨?_, ?_⟩
              · rintro (h | h)
                · exact .inl h
                · by_cases hk : k = s0
                  · exact .inl hk
                  · refine .inr fun i hi => ?_
                    rcases Nat.lt_succ_iff_lt_or_eq.1 hi with h1 | rfl
                    · exact h i h1
                    · rw [← HE2.out, HS0.out]; exact hk
              · rintro (h | h)
                · exact .inl h
                · exact .inr fun i hi => h i (by omega)
            case measure => simp [intOf]; omega
          · have hne : (s.toList == s0.toList) = false := by rw [beq_toList]; exact decide_eq_false hs
            have HS0 := Lib.hid hs
            have HDE := Lib.hid (delete_live HL2.out s HE3.out)
            rw [HQ2.out] at HDE
            clear hs
            go_wp2_with fail
            refine HDE.out.mono ?_
            rintro e w8 ⟨rfl, q3, hq3, hL3, ho3, hk3⟩
            have L3 := Lib.hid hL3
            have O3 : Hid (∀ i, q3.own i → q.own i ∨ w6.heap.size ≤ i) := fun i hi => by
              rcases ho3 i hi with h | h
              · exact HO2.out i h
              · exact .inr (Nat.le_trans HK2.out.size h)
            have K3 : Hid (Kept q.own w6 w8) := HK2.out.join hk3 (fun _ h => h) (fun i hi h => (HO2.out i h).resolve_right (by omega))
            have HQ3 := Lib.hid (hq3.trans HQ2.out)
            clear hL3 ho3 hk3 hq3
            go_wp2_with fail
            go_roundw
            case rel =>
              refine ⟨j + 1, q3, _, by omega, by go_num, HQ3.out, L3.out, O3.out, K3.out, fun k v => ?_⟩
              rw [del_has HL2.out.inv, HH2.out]
              constructor
              · rintro ⟨h1, h2, h3⟩
                refine ⟨h2, h3.imp id fun h i hi => ?_⟩
                rcases Nat.lt_succ_iff_lt_or_eq.1 hi with h4 | rfl
                · exact h i h4
                · rw [← HE2.out]; exact h1
              · rintro ⟨h2, h3⟩
                refine ⟨fun e => ?_, h2, h3.imp id fun h i hi => h i (by omega)⟩
                rcases h3 with h3 | h3
                · exact HS0.out (e.symm.trans h3)
                · exact h3 j (by omega) (by rw [← HE2.out]; exact e)
            case measure => simp [intOf]; omega
        · obtain rfl : j = n := by omega
          have hd2 : decide ((j : Int) < (j : Int)) = false := decide_eq_false (by omega)
          have hall : ∀ k v, Has m2 k v ↔ Has m k v ∧ k = s0 := fun k v => by
            rw [HH2.out]
            refine and_congr_right fun h => ⟨fun h1 => h1.resolve_right fun h2 => ?_, .inl⟩
            obtain ⟨i, hi, e⟩ := List.getElem_of_mem (mem_keysL.2 ⟨v, h⟩)
            have hl := keysL_len HLq.out.inv
            exact h2 i (by rw [HNN.out]; omega) (by rw [List.getD_eq_getElem?_getD, List.getElem?_eq_getElem hi, ← e]; rfl)
          have hone := one_left HLq.out.inv HL2.out.inv E5.out hall
          have hnx : nextL (hashN 0 0) m2 rest = ((ByteArray.empty, default, false), []) := nextL_none fun k hk => getV_none HL2.out.inv fun v hv => by
            have e := ((hall k v).1 hv).2
            subst e
            have := keysL_nodup HLq.out.inv
            rw [HKS.out] at this
            exact (List.nodup_cons.1 this).1 hk
          have W7 : Hid (Wk wr wC.heap.size b q2.b rest) := by
            have := W6.out.kept HK2.out hqo.out
            rw [HQ.out, ← HQ2.out] at this
            exact this
          have HNB : Hid (¬ q2.own b) := fun h => by
            rcases HO2.out b h with h | h
            · exact hqo.out b hbl h
            · have := HBU.out; have := S56.out; omega
          have HNA := Lib.hid (next_any q2 0 0 m2 b rest wr w.heap.size HL2.out wC.heap.size W7.out (fun k hk => by obtain ⟨v, hv⟩ := mem_keysL.1 (show k ∈ keysL m by rw [HKS.out]; exact List.mem_cons_of_mem _ hk); exact HLq.out.keys k v hv) HNB.out (by omega))
          rw [hnx] at HNA
          have HONE := Lib.hid hone
          clear hall hnx hone
          go_wp2_with fail
          refine HNA.out.mono ?_
          rintro e w8 ⟨rfl, hwk, hk8⟩
          have W8 := Lib.hid hwk
          have HLE := Lib.hid (len_any q2 0 0 m2 w8 (HL2.out.at_.kept hk8 (fun j hj e => HNB.out (e ▸ hj))) HL2.out.len)
          have HLF := Lib.hid (left_any wC.heap.size b q2.b [] w8 hwk)
          rw [HQ2.out, HONE.out] at HLE
          have B8 : Hid (Below w.heap.size w w8) := B7.out.trans (hk8.below B7.out.size (fun i _ e => by omega))
          clear hwk hk8
          go_wp2_with fail
          refine HLE.out.mono ?_
          rintro e w9 ⟨rfl, rfl⟩
          go_wp2_with fail
          refine HLF.out.mono ?_
          rintro e w9 ⟨rfl, rfl⟩
          go_wp2
          go_ret
          exact ⟨rfl, B8.out⟩
end Go.Proofs.YtcooapflofiolaaDoor.MS

/- What WalkOnce needs of the plain map: which keys were told, which are gone. -/
namespace Go.Proofs.YtcooapflofiolaaDoor.MS
open Go Go.RowKit Go.Shelf
set_option linter.unusedVariables false
set_option linter.unusedSectionVars false
section
variable {H : ByteArray → Nat} {m : Mp VT}
theorem getV_of {k v : ByteArray} (I : MInv H m) (h : Has m k v) : getV H m k = (v, true) := by
  unfold getV
  cases hf : find H m k with
  | none => exact absurd hf ((find_has I).1 ⟨v, h⟩)
  | some x => rw [(find_val I hf).1 h]
theorem getV_no {k : ByteArray} (I : MInv H m) (h : (getV H m k).2 = false) : ¬ ∃ v, Has m k v := fun ⟨v, hv⟩ => by rw [getV_of I hv] at h; cases h
theorem getV_true {k : ByteArray} (h : (getV H m k).2 = true) : getV H m k = ((getV H m k).1, true) := by rw [← h]
theorem nextL_spec : ∀ (l : List ByteArray), (∃ (i : Nat) (k : ByteArray), l[i]? = some k ∧ (getV H m k).2 = true ∧ (∀ (j : Nat) (u : ByteArray), j < i → l[j]? = some u → (getV H m u).2 = false) ∧ nextL H m l = ((k, (getV H m k).1, true), l.drop (i + 1))) ∨ ((∀ (j : Nat) (u : ByteArray), l[j]? = some u → (getV H m u).2 = false) ∧ nextL H m l = ((ByteArray.empty, default, false), []))
  | [] => .inr ⟨fun j u h => by simp at h, rfl⟩
  | a :: r => by
    cases hg : (getV H m a).2 with
    | true => exact .inl ⟨0, a, rfl, hg, fun j u h => by omega, by unfold nextL; rw [if_pos hg]; rfl⟩
    | false =>
      have hn : nextL H m (a :: r) = nextL H m r := by
        conv => lhs; unfold nextL
        rw [if_neg (by rw [hg]; decide)]
      rcases nextL_spec r with ⟨i, k, h1, h2, h3, h4⟩ | ⟨h1, h2⟩
      · refine .inl ⟨i + 1, k, h1, h2, fun j u hj hu => ?_, by rw [hn, h4]; rfl⟩
        match j with
        | 0 => simp at hu; subst hu; exact hg
        | j + 1 => exact h3 j u (by omega) hu
      · refine .inr ⟨fun j u hu => ?_, by rw [hn, h2]⟩
        match j with
        | 0 => simp at hu; subst hu; exact hg
        | j + 1 => exact h1 j u hu
theorem put_stays (I : MInv H m) (key v k : ByteArray) (h : ∃ u, Has m k u) : ∃ u, Has (put H m key v) k u := by
  obtain ⟨u, hu⟩ := h
  by_cases hn : m.n < 2000 ∨ find H m key ≠ none
  · by_cases hk : k = key
    · exact ⟨v, (put_has I hn k v).2 (by rw [if_pos hk])⟩
    · exact ⟨u, (put_has I hn k u).2 (by rw [if_neg hk]; exact hu)⟩
  · rw [put_full (Classical.not_not.1 fun h => hn (.inr h)) (Nat.le_of_not_lt fun h => hn (.inl h))]
    exact ⟨u, hu⟩
/-- How far a walk over the keys B has come: which were told, which are gone. -/
structure Tk (m : Mp VT) (B : List ByteArray) (d : Nat) (g : Nat → Bool) (t : Nat → Nat) : Prop where
  le : d ≤ B.length
  pre : ∀ j, j < d → t j = 1 ∨ (t j = 0 ∧ g j = true)
  post : ∀ j, d ≤ j → t j = 0
  here : ∀ j k, B[j]? = some k → g j = false → ∃ v, Has m k v
variable {B : List ByteArray} {d : Nat} {g : Nat → Bool} {t : Nat → Nat}
theorem Tk.zero (I : MInv H m) : Tk m (keysL m) 0 (fun _ => false) (fun _ => 0) :=
  ⟨Nat.zero_le _, fun j h => by omega, fun _ _ => rfl, fun j k h _ => mem_keysL.1 (List.mem_of_getElem? h)⟩
theorem Tk.put (h : Tk m B d g t) (I : MInv H m) (key v : ByteArray) : Tk (put H m key v) B d g t :=
  ⟨h.le, h.pre, h.post, fun j k hk hg => put_stays I key v k (h.here j k hk hg)⟩
def goneF (B : List ByteArray) (key : ByteArray) (g : Nat → Bool) (j : Nat) : Nat → Bool := fun i => if i < j then g i || decide (B.getD i default = key) else g i
theorem goneF_succ (B : List ByteArray) (key : ByteArray) (g : Nat → Bool) {j : Nat} {s : ByteArray} (hs : B[j]? = some s) {v : Bool} (hv : v = (g j || decide (s = key))) (i : Nat) : goneF B key g (j + 1) i = if i = j then v else goneF B key g j i := by
  unfold goneF
  by_cases hi : i = j
  · subst hi
    rw [if_pos (by omega), if_pos rfl, hv, List.getD_eq_getElem?_getD, hs]; rfl
  · rw [if_neg hi]
    by_cases h2 : i < j
    · rw [if_pos (by omega), if_pos h2]
    · rw [if_neg (by omega), if_neg h2]
theorem Tk.del (h : Tk m B d g t) (I : MInv H m) (key : ByteArray) : Tk (del H m key) B d (goneF B key g B.length) t := by
  refine ⟨h.le, fun j hj => ?_, h.post, fun j k hk hg => ?_⟩
  · rcases h.pre j hj with h1 | ⟨h1, h2⟩
    · exact .inl h1
    · refine .inr ⟨h1, ?_⟩
      unfold goneF
      rw [h2]
      split <;> rfl
  · have hj := (List.getElem?_eq_some_iff.1 hk).1
    unfold goneF at hg
    rw [if_pos hj, Bool.or_eq_false_iff] at hg
    obtain ⟨v, hv⟩ := h.here j k hk hg.1
    refine ⟨v, (del_has I k v).2 ⟨fun e => ?_, hv⟩⟩
    have := hg.2
    rw [List.getD_eq_getElem?_getD, hk] at this
    simp at this
    exact this e
def toldF (t : Nat → Nat) (x : Nat) (j : Nat) : Nat → Nat := fun i => if i = x ∧ x < j then t i + 1 else t i
theorem toldF_succ (t : Nat → Nat) (x j i : Nat) : toldF t x (j + 1) i = if i = j then (if j = x then t j + 1 else t j) else toldF t x j i := by
  unfold toldF
  by_cases hi : i = j
  · subst hi
    rw [if_pos rfl]
    by_cases h2 : i = x
    · rw [if_pos ⟨h2, by omega⟩, if_pos h2]
    · rw [if_neg (fun e => h2 e.1), if_neg h2]
  · rw [if_neg hi]
    by_cases h2 : i = x ∧ x < j
    · rw [if_pos ⟨h2.1, by omega⟩, if_pos h2]
    · rw [if_neg (fun e => h2 ⟨e.1, by omega⟩), if_neg h2]
/-- What Next tells, and how far the walk then is. -/
theorem Tk.next (h : Tk m B d g t) (I : MInv H m) :
    (∃ x k, x < B.length ∧ d ≤ x ∧ B[x]? = some k ∧ t x = 0 ∧ (getV H m k).2 = true ∧ nextL H m (B.drop d) = ((k, (getV H m k).1, true), B.drop (x + 1)) ∧ Tk m B (x + 1) g (toldF t x B.length)) ∨
    (nextL H m (B.drop d) = ((ByteArray.empty, default, false), []) ∧ Tk m B B.length g t) := by
  rcases nextL_spec (H := H) (m := m) (B.drop d) with ⟨i, k, h1, h2, h3, h4⟩ | ⟨h1, h2⟩
  · rw [List.getElem?_drop] at h1
    have hx := (List.getElem?_eq_some_iff.1 h1).1
    refine .inl ⟨d + i, k, hx, by omega, h1, h.post _ (by omega), h2, by rw [h4, List.drop_drop, Nat.add_assoc], ⟨by omega, fun j hj => ?_, fun j hj => ?_, h.here⟩⟩
    · unfold toldF
      by_cases hjx : j = d + i
      · rw [if_pos ⟨hjx, hx⟩, h.post j (by omega)]; exact .inl rfl
      · rw [if_neg (fun e => hjx e.1)]
        by_cases hjd : j < d
        · exact h.pre j hjd
        · refine .inr ⟨h.post j (by omega), ?_⟩
          have hjl : j < B.length := by omega
          have := h3 (j - d) B[j] (by omega) (by rw [List.getElem?_drop, show d + (j - d) = j by omega, List.getElem?_eq_getElem hjl])
          cases hg : g j with
          | true => rfl
          | false => exact absurd (h.here j B[j] (List.getElem?_eq_getElem hjl) hg) (getV_no I this)
    · unfold toldF
      rw [if_neg (by omega)]
      exact h.post j (by omega)
  · refine .inr ⟨h2, ⟨Nat.le_refl _, fun j hj => ?_, fun j hj => h.post j (by have := h.le; omega), h.here⟩⟩
    by_cases hjd : j < d
    · exact h.pre j hjd
    · refine .inr ⟨h.post j (by omega), ?_⟩
      have := h1 (j - d) B[j] (by rw [List.getElem?_drop, show d + (j - d) = j by omega, List.getElem?_eq_getElem hj])
      cases hg : g j with
      | true => rfl
      | false => exact absurd (h.here j B[j] (List.getElem?_eq_getElem hj) hg) (getV_no I this)
end
/-- Rows of bools and of numbers that functions tell. -/
def rowB (g : Nat → Bool) (n : Nat) : List Value := (List.range n).map fun i => .bool (g i)
def rowI (t : Nat → Nat) (n : Nat) : List Value := (List.range n).map fun i => .int .i64 (t i : Nat)
theorem rowB_at (g : Nat → Bool) {n j : Nat} (h : j < n) : (rowB g n)[j]? = some (.bool (g j)) := by simp [rowB, h]
theorem rowI_at (t : Nat → Nat) {n j : Nat} (h : j < n) : (rowI t n)[j]? = some (.int .i64 (t j : Nat)) := by simp [rowI, h]
theorem rowB_set (g g' : Nat → Bool) (n j : Nat) (v : Bool) (h : ∀ i, i < n → g' i = if i = j then v else g i) : (rowB g n).set j (.bool v) = rowB g' n := by
  apply List.ext_getElem?
  intro i
  by_cases hi : i < n
  · rw [rowB_at g' hi, h i hi, List.getElem?_set]
    by_cases e : j = i
    · subst e; simp [rowB, hi]
    · rw [if_neg e, if_neg (fun h => e h.symm), rowB_at g hi]
  · rw [List.getElem?_eq_none (by simp [rowB]; omega), List.getElem?_eq_none (by simp [rowB]; omega)]
theorem rowI_set (g g' : Nat → Nat) (n j : Nat) (v : Nat) (h : ∀ i, i < n → g' i = if i = j then v else g i) : (rowI g n).set j (.int .i64 (v : Nat)) = rowI g' n := by
  apply List.ext_getElem?
  intro i
  by_cases hi : i < n
  · rw [rowI_at g' hi, h i hi, List.getElem?_set]
    by_cases e : j = i
    · subst e; simp [rowI, hi]
    · rw [if_neg e, if_neg (fun h => e h.symm), rowI_at g hi]
  · rw [List.getElem?_eq_none (by simp [rowI]; omega), List.getElem?_eq_none (by simp [rowI]; omega)]
theorem rowB_congr {g g' : Nat → Bool} {n : Nat} (h : ∀ i, i < n → g i = g' i) : rowB g n = rowB g' n := by
  unfold rowB
  exact List.map_congr_left fun i hi => by rw [h i (List.mem_range.1 hi)]
theorem rowI_congr {g g' : Nat → Nat} {n : Nat} (h : ∀ i, i < n → g i = g' i) : rowI g n = rowI g' n := by
  unfold rowI
  exact List.map_congr_left fun i hi => by rw [h i (List.mem_range.1 hi)]
end Go.Proofs.YtcooapflofiolaaDoor.MS

/- Rows of one's own that lie apart: what an append to one leaves of the other. -/
namespace Go.Proofs.YtcooapflofiolaaDoor
open Go Go.RowKit Go.Shelf
set_option linter.unusedVariables false
set_option linter.unusedSimpArgs false
set_option linter.unusedSectionVars false
/-- A row is left as it is by what changes other blocks. -/
theorem own_sep {w w' : World} {base e size n : Nat} {v : Value} {xs : List Value} {S : Nat → Prop} (h : w.ownsRow base e size v n xs) (hk : Kept S w w') (hs : ∀ r, v.ownBlock = some r → ¬ S r) : w'.ownsRow base e size v n xs := by
  refine ⟨h.1, ?_⟩
  rcases h.2 with h0 | ⟨g, cap, cur, h1, h2, h3, h4⟩
  · exact .inl h0
  · exact .inr ⟨g, cap, cur, h1, h2, (hk.block g (Array.getElem?_eq_some_iff.1 h3).1 (hs g (by rw [h1]; rfl))).trans h3, h4⟩
theorem own_grown {w w' : World} {base e size n : Nat} {v : Value} {xs : List Value} {row : Option Nat} (h : w.ownsRow base e size v n xs) (hg : w.grownBy w' row) (hs : ∀ r, v.ownBlock = some r → row ≠ some r) : w'.ownsRow base e size v n xs := by
  refine ⟨h.1, ?_⟩
  rcases h.2 with h0 | ⟨g, cap, cur, h1, h2, h3, h4⟩
  · exact .inl h0
  · exact .inr ⟨g, cap, cur, h1, h2, (hg.block g (Array.getElem?_eq_some_iff.1 h3).1 (fun e => hs g (by rw [h1]; rfl) e.symm)).trans h3, h4⟩
theorem own_lt {w : World} {base e size n : Nat} {v : Value} {xs : List Value} (h : w.ownsRow base e size v n xs) {r : Nat} (hr : v.ownBlock = some r) : base ≤ r ∧ r < w.heap.size := by
  rcases h.2 with ⟨h0, _⟩ | ⟨g, cap, cur, h1, h2, h3, h4⟩
  · rw [h0] at hr; cases hr
  · rw [h1] at hr
    injection hr with hr
    subst hr
    exact ⟨h2, (Array.getElem?_eq_some_iff.1 h3).1⟩
theorem Kept.grown {S : Nat → Prop} {a w w' : World} {row : Option Nat} (h : Kept S a w) (hg : w.grownBy w' row) (hr : ∀ r, row = some r → S r ∨ a.heap.size ≤ r) : Kept S a w' :=
  ⟨hg.os.trans h.os, hg.tape.trans h.tape, hg.output.trans h.output, Nat.le_trans h.size hg.size, fun i hi hn => (hg.block i (Nat.lt_of_lt_of_le hi h.size) (fun e => by
    rcases hr i e.symm with h1 | h1
    · exact hn h1
    · omega)).trans (h.block i hi hn)⟩
/-- An append of a region that draws its order, to a row of one's own: what it leaves of all other blocks, and where the new row lies. -/
theorem step_own_at {P : Program} {ops : Array Oper} {o : Oper} {a : Act} {w : World} {K : Act → World → Prop} {Q : Exit → Act → World → Prop} {E : Prop} (hgd : o.guard = none) (s x : Operand) (t : TypeId)
    (ho : o.op = .call { callee := .builtin .append, args := #[s, x], argTypes := #[t, t] }) (base e : Nat) (z : Value) (size bytes : Nat) (ht : P.underlying t = some (.slice e))
    (hinfo : (P.info? e).map (fun i => (i.zero, i.size, i.bytes)) = some (some z, size, bytes)) (hzs : z.cells.size = size) (hsz : 0 < size)
    (v : Value) (n : Nat) (xs : List Value) (hs : a.eval s = v) (hX : w.ownsRow base e size v n xs) (hb : base ≤ w.heap.size)
    (q : Addr) (m c : Nat) (hx : a.eval x = .slice (some q) m c) (ys : List Value) (hl : ys.length = m * size) (hY : ∀ j u, ys[j]? = some u → w.cell? (q.add j) = some u) (h1 : ∀ u ∈ ys, u.oneCell' = true)
    (h63 : n + m ≤ maxLen) (hbytes : (n + m) * bytes ≤ 140737488355328)
    (h : ∀ v' w', w'.ownsRow base e size v' (n + m) (xs ++ ys) → w.grownBy w' v.ownBlock → (v'.ownBlock = v.ownBlock ∨ v'.ownBlock = some w.heap.size) → K (a.put o.dst v') w') :
    if Region.wanted o (yielded ops a.tmps) = true then Oper.wp P o a w K Q else E := by
  have hw : Region.wanted o (yielded ops a.tmps) = true := by simp [Region.wanted, hgd]
  rw [if_pos hw]
  obtain ⟨i0, hi, hz0, hz1, hz2⟩ := info_parts hinfo
  obtain ⟨v', w', hr, h2, h3, _, h5⟩ := run_append_own_at (P := P) w base t o.type e i0 z size bytes ht hi hz0 hz1 hz2 hzs hsz v n xs hX q m c ys hl hY h1 h63 hbytes hb
  unfold Oper.wp execOp
  simp only [ho, resolve, invoke, builtin, Sem.run_bind, Sem.run_pure, Result.andThen_ok, List.map_toArray, List.map_cons, List.map_nil, hs, hx, hr]
  exact h v' w' h2 h3 h5
/-- Two rows of texts of one's own, apart from one another and from what 'S' holds. -/
structure Two (w : World) (base : Nat) (S : Nat → Prop) (v u : Value) (n : Nat) (xs ys : List Value) : Prop where
  r1 : w.ownsRow base 9 1 v n xs
  r2 : w.ownsRow base 9 1 u n ys
  ne : ∀ r, v.ownBlock = some r → u.ownBlock ≠ some r
  s1 : ∀ r, v.ownBlock = some r → ¬ S r
  s2 : ∀ r, u.ownBlock = some r → ¬ S r
theorem Two.nil (w : World) (base : Nat) (S : Nat → Prop) : Two w base S (.slice none 0 0) (.slice none 0 0) 0 [] [] :=
  ⟨World.ownsRow_nil _ _ _ _, World.ownsRow_nil _ _ _ _, fun r h => (by cases h), fun r h => (by cases h), fun r h => (by cases h)⟩
/-- What acts on a map leave of the two rows. -/
theorem Two.kept {w w' : World} {base n : Nat} {S T : Nat → Prop} {v u : Value} {xs ys : List Value} (h : Two w base S v u n xs ys) (hk : Kept T w w') (hT : ∀ j, T j → S j) (S' : Nat → Prop) (hS : ∀ j, S' j → S j ∨ w.heap.size ≤ j) : Two w' base S' v u n xs ys :=
  ⟨own_sep h.r1 hk (fun r hr e => h.s1 r hr (hT r e)), own_sep h.r2 hk (fun r hr e => h.s2 r hr (hT r e)), h.ne,
   fun r hr e => by
    rcases hS r e with h1 | h1
    · exact h.s1 r hr h1
    · have := (own_lt h.r1 hr).2; omega,
   fun r hr e => by
    rcases hS r e with h1 | h1
    · exact h.s2 r hr h1
    · have := (own_lt h.r2 hr).2; omega⟩
end Go.Proofs.YtcooapflofiolaaDoor

/- Two rows that hold the same: Words and Texts of the first reference. -/
namespace Go.Proofs.YtcooapflofiolaaDoor
open Go Go.RowKit Go.Shelf
set_option linter.unusedVariables false
set_option linter.unusedSimpArgs false
set_option linter.unusedSectionVars false
set_option maxRecDepth 100000
set_option maxHeartbeats 4000000
def wordsL (l : List Nat) : List Value := l.map fun x => Value.int .u64 (x : Nat)
theorem words_same (l : List Nat) (v1 v2 : Value) (b1 b2 n : Nat) (hn : n ≤ 1000000) (w : World) (h1 : w.ownsRow b1 22 1 v1 n (wordsL l)) (h2 : w.ownsRow b2 22 1 v2 n (wordsL l)) :
    Calls Tryd.prog 45 #[v1, v2] w fun e w' => e = .returned (.bool true) ∧ Below w.heap.size w w' := by
  obtain ⟨a1, c1, rfl, _⟩ := own_val h1
  obtain ⟨a2, c2, rfl, _⟩ := own_val h2
  have hl : l.length = n := by have := h1.1; simpa [wordsL] using this
  have H1 := Lib.hid h1
  have H2 := Lib.hid h2
  clear h1 h2
  go_enter Tryd.func45, Tryd.ntmps45
  go_wp2
  go_loopw [13] (fun i wr => ∃ k : Nat, k ≤ n ∧ i = .int .i64 k ∧ Below w.heap.size w wr) (fun i _ => n - (intOf i).toNat)
  case atStart => exact ⟨0, by omega, rfl, Below.refl _ _⟩
  case round =>
    obtain ⟨k, hk, rfl, hB⟩ := hrel
    have HB := Lib.hid hB
    clear hB
    by_cases hlt : k < n
    · have hd : decide ((k : Int) < (n : Int)) = true := decide_eq_true (by omega)
      have hkn : (k : Int) < (n : Int) := by omega
      obtain ⟨g1, d1, e1, _, _, _, hc1⟩ := own_read (own_below H1.out (Nat.le_refl _) HB.out) (by omega)
      obtain ⟨g2, d2, e2, _, _, _, hc2⟩ := own_read (own_below H2.out (Nat.le_refl _) HB.out) (by omega)
      cases e1
      cases e2
      obtain ⟨x, hx⟩ : ∃ x, l[k]? = some x := ⟨_, List.getElem?_eq_getElem (by omega)⟩
      have hat : (wordsL l)[k]? = some (.int .u64 (x : Nat)) := by simp [wordsL, hx]
      have s1 := hc1 _ _ hat
      have s2 := hc2 _ _ hat
      clear hc1 hc2 hx hat
      go_upto_region 6 with fail
      go_quiet (fail)
      go_wp2_with fail
      go_roundw
      case rel => exact ⟨k + 1, by omega, by go_num, HB.out.trans ⟨rfl, rfl, rfl, Nat.le_refl _, fun _ _ => rfl⟩⟩
      case measure => simp [intOf]; omega
    · obtain rfl : k = n := by omega
      have hd : decide ((k : Int) < (k : Int)) = false := decide_eq_false (by omega)
      go_wp2
      go_ret
      exact ⟨rfl, HB.out⟩
theorem texts_same (l : List ByteArray) (v1 v2 : Value) (b1 b2 n : Nat) (hn : n ≤ 1000000) (w : World) (h1 : w.ownsRow b1 9 1 v1 n (textsV l)) (h2 : w.ownsRow b2 9 1 v2 n (textsV l)) :
    Calls Tryd.prog 46 #[v1, v2] w fun e w' => e = .returned (.bool true) ∧ Below w.heap.size w w' := by
  obtain ⟨a1, c1, rfl, _⟩ := own_val h1
  obtain ⟨a2, c2, rfl, _⟩ := own_val h2
  have hl : l.length = n := by have := h1.1; simpa [textsV] using this
  have H1 := Lib.hid h1
  have H2 := Lib.hid h2
  clear h1 h2
  go_enter Tryd.func46, Tryd.ntmps46
  go_wp2
  go_loopw [13] (fun i wr => ∃ k : Nat, k ≤ n ∧ i = .int .i64 k ∧ Below w.heap.size w wr) (fun i _ => n - (intOf i).toNat)
  case atStart => exact ⟨0, by omega, rfl, Below.refl _ _⟩
  case round =>
    obtain ⟨k, hk, rfl, hB⟩ := hrel
    have HB := Lib.hid hB
    clear hB
    by_cases hlt : k < n
    · have hd : decide ((k : Int) < (n : Int)) = true := decide_eq_true (by omega)
      have hkn : (k : Int) < (n : Int) := by omega
      obtain ⟨g1, d1, e1, _, _, _, hc1⟩ := own_read (own_below H1.out (Nat.le_refl _) HB.out) (by omega)
      obtain ⟨g2, d2, e2, _, _, _, hc2⟩ := own_read (own_below H2.out (Nat.le_refl _) HB.out) (by omega)
      cases e1
      cases e2
      obtain ⟨x, hx⟩ : ∃ x, l[k]? = some x := ⟨_, List.getElem?_eq_getElem (by omega)⟩
      have hat : (textsV l)[k]? = some (.string x) := by simp [textsV, hx]
      have s1 := hc1 _ _ hat
      have s2 := hc2 _ _ hat
      clear hc1 hc2 hx hat
      go_upto_region 6 with fail
      go_quiet (fail)
      go_wp2_with fail
      go_roundw
      case rel => exact ⟨k + 1, by omega, by go_num, HB.out.trans ⟨rfl, rfl, rfl, Nat.le_refl _, fun _ _ => rfl⟩⟩
      case measure => simp [intOf]; omega
    · obtain rfl : k = n := by omega
      have hd : decide ((k : Int) < (k : Int)) = false := decide_eq_false (by omega)
      go_wp2
      go_ret
      exact ⟨rfl, HB.out⟩
end Go.Proofs.YtcooapflofiolaaDoor

/- All of a map of texts, as a sequence: what the iterator tells, and the function that hands it back. -/
namespace Go.Proofs.YtcooapflofiolaaDoor.MS
open Go Go.RowKit Go.Shelf
set_option linter.unusedVariables false
set_option linter.unusedSimpArgs false
set_option maxRecDepth 100000
set_option maxHeartbeats 4000000
def keyN (m : Mp VT) (k : Nat) : ByteArray := (keysL m).getD k default
def valN (H : ByteArray → Nat) (m : Mp VT) (k : Nat) : ByteArray := (getV H m (keyN m k)).1
/-- What Next tells at a place. -/
def telK (H : ByteArray → Nat) (m : Mp VT) (k : Nat) : (ByteArray × VT × Bool) × List ByteArray := nextL H m ((keysL m).drop k)
section
variable {H : ByteArray → Nat} {m : Mp VT}
theorem keyN_at {k : Nat} (hk : k < (keysL m).length) : (keysL m)[k]? = some (keyN m k) := by
  unfold keyN; rw [List.getD_eq_getElem?_getD, List.getElem?_eq_getElem hk]; rfl
theorem keyN_has (I : MInv H m) {k : Nat} (hk : k < m.n) : Has m (keyN m k) (valN H m k) ∧ getV H m (keyN m k) = (valN H m k, true) := by
  have hl : k < (keysL m).length := by rw [keysL_len I]; exact hk
  obtain ⟨v, hv⟩ := mem_keysL.1 (List.mem_of_getElem? (keyN_at hl))
  have e := getV_of I hv
  have e2 : valN H m k = v := by unfold valN; rw [e]
  rw [e2]
  exact ⟨hv, e⟩
theorem tel_at (I : MInv H m) {k : Nat} (hk : k < m.n) : telK H m k = ((keyN m k, valN H m k, true), (keysL m).drop (k + 1)) := by
  have hl : k < (keysL m).length := by rw [keysL_len I]; exact hk
  unfold telK
  have hd : (keysL m).drop k = keyN m k :: (keysL m).drop (k + 1) := by
    rw [List.drop_eq_getElem_cons hl]
    congr 1
    have := keyN_at hl
    rw [List.getElem?_eq_getElem hl] at this
    exact Option.some.inj this
  rw [hd, nextL, (keyN_has I hk).2]
  rfl
theorem tel_end (I : MInv H m) : telK H m m.n = ((ByteArray.empty, default, false), []) := by
  unfold telK
  rw [List.drop_eq_nil_of_le (by rw [keysL_len I]; exact Nat.le_refl _)]
  rfl
end
theorem all_r (n : Nat) (hn : 1 ≤ n) (Bx Pb lo : Nat) (p : Pl) (k0 k1 : BitVec 64) (m : Mp VT) (w : World) (hB : w.heap[Bx]? = some (.cells #[.pointer (some ⟨p.b, 0, none⟩)] 26 (0, 0))) (hL : Live w lo p k0 k1 m) (hP : Pb < w.heap.size) (hPB : Pb ≠ Bx) (hPo : ¬ p.own Pb) (hP0 : Pb ≠ 0) :
    SeqR Fence.wide n Tryd.prog 88 #[.pointer (some ⟨Bx, 0, none⟩)] (fun k => #[.string (keyN m k), .string (valN (hashN k0 k1) m k)]) m.n Pb w := fun l J Jx W hW hlW hlw start abide round => by
  have hBW : W.heap[Bx]? = some (.cells #[.pointer (some ⟨p.b, 0, none⟩)] 26 (0, 0)) := (hW.block _ (Array.getElem?_eq_some_iff.1 hB).1).trans hB
  have cB : W.cell? ⟨Bx, 0, none⟩ = some (.pointer (some ⟨p.b, 0, none⟩)) := by simp [World.cell?, hBW]
  have LW : Hid (Live W lo p k0 k1 m) := hL.below (Nat.le_refl _) hW
  have HOW : Hid (∀ j, p.own j → j < w.heap.size) := fun j hj => hL.at_.lt hj
  have HSZ : Hid (∀ u, u ∈ keysL m → u.size ≤ maxLen) := fun u hu => by
    obtain ⟨v, hv⟩ := mem_keysL.1 hu
    exact hL.keys _ _ hv
  have HZ : Hid (w.heap.size ≤ W.heap.size ∧ l < W.heap.size ∧ w.heap.size ≤ l ∧ Pb < w.heap.size ∧ Pb ≠ 0 ∧ 0 < lo ∧ lo ≤ w.heap.size) := ⟨hW.size, hlW, hlw, hP, hP0, hL.pos, hL.le⟩
  have HPo := Lib.hid hPo
  have HST := Lib.hid start
  have HAB := Lib.hid abide
  have HRD := Lib.hid round
  have HNW := Lib.hid ((callsIn_wide (n := n - 1)).2 (wnew_r p k0 k1 m W LW.out.at_ LW.out.inv))
  have hI := LW.out.inv
  have HI := Lib.hid hI
  clear hBW hB hW hL hlW hlw hP hPB hPo hP0 start abide round hI
  show CallsIn _ _ _ _ #[.func (.yield l) #[] #[], .pointer (some ⟨Bx, 0, none⟩)] _ _
  refine callsIn_of_wp Tryd.func88 rfl trivial ?_ rfl
  simp only [Tryd.ntmps88, List.size_toArray, List.length_cons, List.length_nil, Nat.reduceAdd, Nat.reduceSub, Array.replicate_succ, Array.replicate_zero, List.push_toArray, List.append_toArray, List.nil_append, List.cons_append]
  have h24 : Fence.wide.fn 24 := trivial
  have h27 : Fence.wide.fn 27 := trivial
  gi_wp2_with fail
  refine HNW.out.mono ?_
  rintro e W1 ⟨b, rfl, hwr, hb1⟩
  obtain ⟨hi, hhi⟩ : ∃ hi, hi = W1.heap.size := ⟨_, rfl⟩
  have HJ0 : Hid (J hi 0 W1) := by rw [hhi]; exact HST.out W1 hb1
  rw [← hhi] at hwr
  have HWR := Lib.hid hwr
  have L1 : Hid (Live W1 lo p k0 k1 m) := LW.out.below (Nat.le_refl _) hb1
  have HRB : Hid (W.heap.size ≤ b ∧ b < hi) := by obtain ⟨a, c, _, _, _, _, h5⟩ := hwr; exact h5
  have HHI : Hid (W.heap.size ≤ hi ∧ hi ≤ W1.heap.size) := ⟨by rw [hhi]; exact hb1.size, Nat.le_of_eq hhi⟩
  have HNB : Hid (¬ p.own b ∧ 0 < b) := ⟨fun e => by have h1 := HOW.out b e; have h2 := HRB.out; have h3 := HZ.out; omega, by have h2 := HRB.out; have h3 := HZ.out; omega⟩
  have NX : Hid (∀ (k : Nat) (V : World), Live V lo p k0 k1 m → Wr V (fun j => W.heap.size ≤ j ∧ j < hi) b p.b ((keysL m).drop k) → CallsIn Fence.wide (n - 1) Tryd.prog 27 #[.pointer (some ⟨b, 0, none⟩)] V fun e V' => e = .returned (.tuple #[.string (telK (hashN k0 k1) m k).1.1, .string (telK (hashN k0 k1) m k).1.2.1, .bool (telK (hashN k0 k1) m k).1.2.2]) ∧ Wr V' (fun j => W.heap.size ≤ j ∧ j < hi) b p.b (telK (hashN k0 k1) m k).2 ∧ Kept (· = b) V V') := by
    show ∀ k V, _
    intro k V hV hw
    exact (callsIn_wide (n := n - 1)).2 (next_r p k0 k1 m b ((keysL m).drop k) V lo hV _ hw (fun u hu => HSZ.out u (List.mem_of_mem_drop hu)) HNB.out.1 HNB.out.2)
  have H1 := Lib.hid (NX.out 0 W1 L1.out HWR.out)
  clear hhi hwr hb1 cB
  gi_wp2_with fail
  refine H1.out.mono ?_
  rintro e W2 ⟨rfl, hw2, hk2⟩
  have J2 : Hid (J hi 0 W2) := HAB.out hi 0 W1 W2 HJ0.out (hk2.weaken fun j hj => by have : j = b := hj; have h2 := HRB.out; omega)
  have L2 : Hid (Live W2 lo p k0 k1 m) := L1.out.kept hk2 (fun j hj e => HNB.out.1 (by have : j = b := e; rw [← this]; exact hj)) (fun e => by have : 0 = b := e; have := HNB.out.2; omega)
  have HW2 := Lib.hid hw2
  have HZ2 : Hid (hi ≤ W2.heap.size) := Nat.le_trans HHI.out.2 hk2.size
  clear hw2 hk2
  gi_wp2
  gi_loopw [4, 5, 6] (fun s4 s5 s6 wr => ∃ k : Nat, k ≤ m.n ∧ s4 = .string (telK (hashN k0 k1) m k).1.1 ∧ s5 = .string (telK (hashN k0 k1) m k).1.2.1 ∧ s6 = .bool (telK (hashN k0 k1) m k).1.2.2 ∧ J hi k wr ∧ Wr wr (fun j => W.heap.size ≤ j ∧ j < hi) b p.b (telK (hashN k0 k1) m k).2 ∧ Live wr lo p k0 k1 m ∧ hi ≤ wr.heap.size) (fun _ _ s6 wr => 2 * aheadOf b wr + (match s6 with | .bool true => 1 | _ => 0))
  case atStart => exact ⟨0, Nat.zero_le _, rfl, rfl, rfl, J2.out, HW2.out, L2.out, HZ2.out⟩
  case round =>
    obtain ⟨k, hk, rfl, rfl, rfl, hJ, hwr, hLr, hsz⟩ := hrel
    have HJ := Lib.hid hJ
    have HWr := Lib.hid hwr
    have HLr := Lib.hid hLr
    have HSz := Lib.hid hsz
    have HAH : Hid (aheadOf b wr = (telK (hashN k0 k1) m k).2.length) := by
      obtain ⟨a', c', h, _⟩ := hwr
      have : wr.cell? ⟨b, 1, none⟩ = some (.slice a' (telK (hashN k0 k1) m k).2.length c') := by unfold World.cell?; simp [h]
      show _ = _
      unfold aheadOf; rw [this]
    clear hJ hwr hLr hsz
    by_cases hlt : k < m.n
    · have ht := tel_at HI.out hlt
      rw [ht] at HWr HAH ⊢
      have hx := HRD.out hi k wr HJ.out HSz.out HHI.out.1 hlt
      obtain ⟨fn, tmps, assign, body, hy, hR⟩ := hx
      have HR := Lib.hid hR
      obtain ⟨kk, hkk⟩ : ∃ kk, kk = keyN m k := ⟨_, rfl⟩
      obtain ⟨vv, hvv⟩ : ∃ vv, vv = valN (hashN k0 k1) m k := ⟨_, rfl⟩
      rw [← hkk, ← hvv] at hy ⊢
      clear hR ht hkk hvv
      gi_wp2
      refine HR.out.mono ?_
      rintro e W3 (⟨rfl, hJ3, hk3⟩ | ⟨rfl, hjx⟩)
      · have HJ3 := Lib.hid hJ3
        have HK3 := Lib.hid hk3
        have L3 : Hid (Live W3 lo p k0 k1 m) := HLr.out.kept hk3 (fun j hj e => by
          have h1 := HOW.out j hj; have h2 := HZ.out; have h3 := HHI.out
          rcases e with e | e | e
          · rw [e] at hj; exact HPo.out hj
          · omega
          · omega) (fun e => by
          have h2 := HZ.out; have h3 := HHI.out
          rcases e with e | e | e <;> omega)
        have W3' : Hid (Wr W3 (fun j => W.heap.size ≤ j ∧ j < hi) b p.b ((keysL m).drop (k + 1))) := HWr.out.kept hk3 (fun j hj e => by
          have h2 := HZ.out; have h3 := HHI.out
          rcases e with e | e | e <;> omega)
        have H3 := Lib.hid (NX.out (k + 1) W3 L3.out W3'.out)
        clear hJ3 hk3 hy
        gi_wp2_with fail
        refine H3.out.mono ?_
        rintro e W4 ⟨rfl, hw4, hk4⟩
        have J4 : Hid (J hi (k + 1) W4) := HAB.out hi (k + 1) W3 W4 HJ3.out (hk4.weaken fun j hj => by have : j = b := hj; have h2 := HRB.out; omega)
        have L4 : Hid (Live W4 lo p k0 k1 m) := L3.out.kept hk4 (fun j hj e => HNB.out.1 (by have : j = b := e; rw [← this]; exact hj)) (fun e => by have : 0 = b := e; have := HNB.out.2; omega)
        have HW4 := Lib.hid hw4
        have HZ4 : Hid (hi ≤ W4.heap.size) := Nat.le_trans HSz.out (Nat.le_trans HK3.out.size hk4.size)
        have HA4 : Hid (aheadOf b W4 = (telK (hashN k0 k1) m (k + 1)).2.length) := by
          obtain ⟨a', c', h, _⟩ := hw4
          have : W4.cell? ⟨b, 1, none⟩ = some (.slice a' (telK (hashN k0 k1) m (k + 1)).2.length c') := by unfold World.cell?; simp [h]
          show _ = _
          unfold aheadOf; rw [this]
        have HTT : Hid (k + 1 < m.n → (telK (hashN k0 k1) m (k + 1)).2.length + 1 = ((keysL m).drop (k + 1)).length) := fun h => by rw [tel_at HI.out h]; simp [keysL_len HI.out]; omega
        have HTE : Hid (k + 1 = m.n → telK (hashN k0 k1) m (k + 1) = ((ByteArray.empty, default, false), [])) := fun h => by rw [h]; exact tel_end HI.out
        have HTB : Hid (k + 1 < m.n → (telK (hashN k0 k1) m (k + 1)).1.2.2 = true) := fun h => by rw [tel_at HI.out h]
        clear hw4 hk4
        gi_wp2
        go_roundw
        case rel => exact ⟨k + 1, hlt, rfl, rfl, rfl, J4.out, HW4.out, L4.out, HZ4.out⟩
        case measure =>
          rw [HAH.out, HA4.out]
          by_cases h : k + 1 < m.n
          · have h1 := HTT.out h
            have h2 := HTB.out h
            rw [h2]
            dsimp only
            omega
          · have h1 := HTE.out (by omega)
            rw [h1]
            simp
      · have HJX := Lib.hid hjx
        clear hjx hy
        gi_wp2
        go_end0
        exact ⟨⟨_, rfl⟩, .inr HJX.out⟩
    · obtain rfl : k = m.n := by omega
      rw [tel_end HI.out]
      gi_wp2
      refine ⟨fun f h => (by cases h), ?_⟩
      gi_wp2
      go_end0
      exact ⟨⟨_, rfl⟩, .inl ⟨hi, HHI.out.1, HJ.out⟩⟩
theorem all_any (q : Option Addr) (w : World) : Calls Tryd.prog 47 #[.pointer q] w fun e w' => e = .returned (.func (.func 88) #[] #[.pointer (some ⟨w.heap.size, 0, none⟩)]) ∧ w' = w.alloc (.cells #[.pointer q] 26) := by
  go_enter Tryd.func47, Tryd.ntmps47
  go_wp2
  go_ret
  exact ⟨rfl, rfl⟩
theorem cut_head (a : Option Addr) (n c t : Nat) (h : t ≤ c) (W : World) : (Instr.slice 30 (.slice a n c) none (some (.int .i64 (t : Nat))) none).run Tryd.prog W = .ok (.slice a t c) W := by
  have hs : (sizeOf (Tryd.prog.elem 30)).run Tryd.prog W = .ok 1 W := by
    obtain ⟨i0, hi, hz0, hz1, hz2⟩ := info_parts infoT
    have he : Tryd.prog.elem 30 = 9 := by kernel_rfl
    rw [he]
    simp [sizeOf, typeInfo, hi, hz1]
  rw [run_slice_h W 30 _ n c Tryd.underlying30 _ _ (by omega) (by omega), hs]
  simp only [Result.andThen_ok, sliced]
  have ha : (a.map fun x => x.add (0 * 1)) = a := by cases a <;> simp [Addr.add]
  rw [ha]
  by_cases hc : c = 0
  · subst hc; simp
  · simp
theorem texts_read (l : List ByteArray) (v1 : Value) (b1 : Nat) (a2 : Option Addr) (d2 n : Nat) (hn : n ≤ 1000000) (w : World) (h1 : w.ownsRow b1 9 1 v1 n (textsV l)) (h2 : n = 0 ∨ ∃ g, a2 = some ⟨g, 0, none⟩ ∧ ∀ (j : Nat) x, l[j]? = some x → w.cell? ⟨g, j, none⟩ = some (.string x)) :
    Calls Tryd.prog 46 #[v1, .slice a2 n d2] w fun e w' => e = .returned (.bool true) ∧ Below w.heap.size w w' := by
  obtain ⟨a1, c1, rfl, _⟩ := own_val h1
  have hl : l.length = n := by have := h1.1; simpa [textsV] using this
  have H1 := Lib.hid h1
  have H2 := Lib.hid h2
  clear h1 h2
  go_enter Tryd.func46, Tryd.ntmps46
  go_wp2
  go_loopw [13] (fun i wr => ∃ k : Nat, k ≤ n ∧ i = .int .i64 k ∧ Below w.heap.size w wr) (fun i _ => n - (intOf i).toNat)
  case atStart => exact ⟨0, by omega, rfl, Below.refl _ _⟩
  case round =>
    obtain ⟨k, hk, rfl, hB⟩ := hrel
    have HB := Lib.hid hB
    clear hB
    by_cases hlt : k < n
    · have hd : decide ((k : Int) < (n : Int)) = true := decide_eq_true (by omega)
      have hkn : (k : Int) < (n : Int) := by omega
      obtain ⟨g1, d1, e1, _, _, _, hc1⟩ := own_read (own_below H1.out (Nat.le_refl _) HB.out) (by omega)
      obtain ⟨g2, rfl, hc2⟩ := H2.out.resolve_left (by omega)
      cases e1
      obtain ⟨x, hx⟩ : ∃ x, l[k]? = some x := ⟨_, List.getElem?_eq_getElem (by omega)⟩
      have hat : (textsV l)[k]? = some (.string x) := by simp [textsV, hx]
      have s1 := hc1 _ _ hat
      have s2 := low_cell HB.out (Nat.le_refl _) (hc2 _ _ hx)
      clear hc1 hc2 hx hat
      go_upto_region 6 with fail
      go_quiet (fail)
      go_wp2_with fail
      go_roundw
      case rel => exact ⟨k + 1, by omega, by go_num, HB.out.trans ⟨rfl, rfl, rfl, Nat.le_refl _, fun _ _ => rfl⟩⟩
      case measure => simp [intOf]; omega
    · obtain rfl : k = n := by omega
      have hd : decide ((k : Int) < (k : Int)) = false := decide_eq_false (by omega)
      go_wp2
      go_ret
      exact ⟨rfl, HB.out⟩
end Go.Proofs.YtcooapflofiolaaDoor.MS

/- few of chapter 6: are the acts few and short? -/
namespace Go.Proofs.YtcooapflofiolaaDoor
open Go Go.RowKit Go.Shelf
set_option linter.unusedVariables false
set_option linter.unusedSimpArgs false
set_option maxRecDepth 100000
set_option maxHeartbeats 4000000
def Few6 (xs : List Ac) (k : Nat) : Prop := k ≤ 500 ∧ ∀ j, j < k → (xs.getD j default).key.size < 40000 ∧ (xs.getD j default).val.size < 40000
theorem few6_any (s : Option Addr) (n c : Nat) (xs : List Ac) (w : World) (h : AR w s n xs) :
    Calls Tryd.prog 21 #[.slice s n c] w fun e w' => ∃ b : Bool, e = .returned (.bool b) ∧ Below w.heap.size w w' ∧ (b = true → Few6 xs n) := by
  have HA := Lib.hid h
  clear h
  go_enter Tryd.func21, Tryd.ntmps21
  go_wp2
  go_loopw [3, 8] (fun t i wr => ∃ (k u : Nat), k ≤ n ∧ i = .int .i64 k ∧ t = .int .i64 u ∧ k ≤ u ∧ u ≤ 500 ∧ Few6 xs k ∧ Below w.heap.size w wr) (fun t i _ => n - (intOf i).toNat)
  case atStart => exact ⟨0, 0, by omega, rfl, rfl, by omega, by omega, ⟨by omega, fun j hj => by omega⟩, Below.refl _ _⟩
  case round =>
    obtain ⟨k, u, hk, rfl, rfl, hku, hu, hF, hB⟩ := hrel
    have HF := Lib.hid hF
    have HB := Lib.hid hB
    clear hF hB
    by_cases hlt : k < n
    · have hd : decide ((k : Int) < (n : Int)) = true := decide_eq_true (by omega)
      have hkn : (k : Int) < (n : Int) := by omega
      obtain ⟨b, off, rfl, x0, x1, x2⟩ := (HA.out.below (Nat.le_refl _) HB.out).act hlt
      obtain ⟨z1, z2⟩ := HA.out.2.2 k hlt
      obtain ⟨x, hx⟩ : ∃ x, x = xs.getD k default := ⟨_, rfl⟩
      rw [← hx] at x0 x1 x2 z1 z2
      have HX := Lib.hid hx
      clear hx
      have hw1 : IntKind.i64.wrap ((x.key.size : Int) + (x.val.size : Int)) = (x.key.size : Int) + (x.val.size : Int) := IntWalk.i64_in _ (by omega)
      have hw2 : IntKind.i64.wrap (1 + ((x.key.size : Int) + (x.val.size : Int)) / 50) = 1 + ((x.key.size : Int) + (x.val.size : Int)) / 50 := IntWalk.i64_in _ (by omega)
      have hw3 : IntKind.i64.wrap ((u : Int) + (1 + ((x.key.size : Int) + (x.val.size : Int)) / 50)) = (u : Int) + (1 + ((x.key.size : Int) + (x.val.size : Int)) / 50) := IntWalk.i64_in _ (by omega)
      by_cases hbig : 500 < u + (1 + (x.key.size + x.val.size) / 50)
      · have hd2 : decide ((500 : Int) < (u : Int) + (1 + ((x.key.size : Int) + (x.val.size : Int)) / 50)) = true := decide_eq_true (by omega)
        clear hbig
        go_wp2
        go_ret
        exact ⟨false, rfl, HB.out.alloc HB.out.size _, fun h => by cases h⟩
      · have hd2 : decide ((500 : Int) < (u : Int) + (1 + ((x.key.size : Int) + (x.val.size : Int)) / 50)) = false := decide_eq_false (by omega)
        go_wp2
        go_roundw
        case rel =>
          refine ⟨k + 1, u + (1 + (x.key.size + x.val.size) / 50), by omega, by go_num, by go_num, by omega, by omega, ⟨by omega, fun j hj => ?_⟩, HB.out.alloc HB.out.size _⟩
          rcases Nat.lt_succ_iff_lt_or_eq.1 hj with h1 | rfl
          · exact HF.out.2 j h1
          · rw [← HX.out]; omega
        case measure => simp [intOf]; omega
    · obtain rfl : k = n := by omega
      have hd : decide ((k : Int) < (k : Int)) = false := decide_eq_false (by omega)
      go_wp2
      go_ret
      exact ⟨true, rfl, HB.out, fun _ => HF.out⟩
end Go.Proofs.YtcooapflofiolaaDoor

/- The law 'WalkAll' answers true at every input, and leaves its arguments as they were; the listed table starts as the program's text lays it (the given tie). (The frame was written by a program, after the kit's own frames.) -/
namespace Go.Proofs.YtcooapflofiolaaDoor.walkAll
open Go.ChangeShapes Go.WideShapes Go.ChangeAt Go.RowKit Go.Shelf Go.Proofs.YtcooapflofiolaaDoor
open Go.ChangeMaps (open_string shut_string)
set_option linter.unusedVariables false
set_option linter.unusedSimpArgs false
set_option maxRecDepth 100000
attribute [local go_sem] Oper.semAt_some

theorem laidOut : laidOutB Tryd.prog = true := by kernel_rfl

set_option maxHeartbeats 8000000 in
theorem walk (w : World) (hS : Sh w) (a0 b0 : BitVec 64) (s1 : Option Addr) (n1 c1 : Nat) (xs1 : List Ac) (ar1 : AR w s1 n1 xs1) (a2 : Int) (w2 : (Lit.int .i64 a2).wf = true) :
    Calls Tryd.prog 9 #[.agg #[.int .u64 (Sip.U a0), .int .u64 (Sip.U b0)], .slice s1 n1 c1, .int .i64 a2] w fun e w' => e = .returned (.bool true) ∧ Below w.heap.size w w' := by
  have HAR := Lib.hid ar1
  have HSh := Lib.hid hS
  obtain ⟨w1, hw1⟩ : ∃ w1, w1 = ((w.alloc (.cells #[.int .u64 (Sip.U a0), .int .u64 (Sip.U b0)] 24)).alloc (.cells #[.int .i64 a2] 3)).alloc (.cells #[.bool false] 4) := ⟨_, rfl⟩
  have B1 : Hid (Below w.heap.size w w1) := by rw [hw1]; exact (((Below.refl _ w).alloc (Nat.le_refl _) _).alloc (by simp) _).alloc (by simp; omega) _
  have x0 : (w.alloc (.cells #[.int .u64 (Sip.U a0), .int .u64 (Sip.U b0)] 24)).cell? ⟨w.heap.size, 0, none⟩ = some (.int .u64 (Sip.U a0)) := by simp
  have x1 : (w.alloc (.cells #[.int .u64 (Sip.U a0), .int .u64 (Sip.U b0)] 24)).cell? ⟨w.heap.size, 1, none⟩ = some (.int .u64 (Sip.U b0)) := by simp
  have bb : Below (w.alloc (.cells #[.int .u64 (Sip.U a0), .int .u64 (Sip.U b0)] 24)).heap.size (w.alloc (.cells #[.int .u64 (Sip.U a0), .int .u64 (Sip.U b0)] 24)) w1 := by rw [hw1]; exact ((Below.refl _ _).alloc (Nat.le_refl _) _).alloc (by simp) _
  have c0 : w1.cell? ⟨w.heap.size, 0, none⟩ = some (.int .u64 (Sip.U a0)) := low_cell bb (Nat.le_refl _) x0
  have d1 : w1.cell? ⟨w.heap.size, 1, none⟩ = some (.int .u64 (Sip.U b0)) := low_cell bb (Nat.le_refl _) x1
  have x2 : ((w.alloc (.cells #[.int .u64 (Sip.U a0), .int .u64 (Sip.U b0)] 24)).alloc (.cells #[.int .i64 a2] 3)).cell? ⟨w.heap.size + 1, 0, none⟩ = some (.int .i64 a2) := by simp
  have hc1 : w1.cell? ⟨w.heap.size + 1, 0, none⟩ = some (.int .i64 a2) := by rw [hw1]; exact low_cell ((Below.refl _ _).alloc (Nat.le_refl _) _) (Nat.le_refl _) x2
  clear x0 x1 x2 bb
  have hr1 : w1.heap[w.heap.size + 2]? = some (.cells #[.bool false] 4 (0, 0)) := by
    rw [hw1]
    have := heap_alloc_new ((w.alloc (.cells #[.int .u64 (Sip.U a0), .int .u64 (Sip.U b0)] 24)).alloc (.cells #[.int .i64 a2] 3)) (.cells #[.bool false] 4)
    simpa using this
  have hz1 : w1.heap.size = w.heap.size + 3 := by rw [hw1]; simp
  obtain ⟨s, hs⟩ : ∃ s, s = w.heap.size := ⟨_, rfl⟩
  rw [← hs] at c0 d1 hc1 hr1 hz1
  have Z1 := Lib.hid hz1
  have HC1 := Lib.hid hc1
  have HR1 := Lib.hid hr1
  clear hz1 hc1 hr1
  have S1 : Hid (Sh w1) := HSh.out.below B1.out
  have HN := Lib.hid (MS.new_live a0 b0 0 w1 S1.out)
  have HLV : Hid (∀ W, Below s w W → Calls Tryd.prog 22 #[] W fun e w' => e = .returned (.bool true) ∧ Below W.heap.size W w') := by
    show ∀ W, _
    intro W hW
    exact MS.wlives_any W (HSh.out.below (by rw [← hs]; exact hW))
  have hneed : needF 0 = 1 := by rfl
  have HW1 := Lib.hid hw1
  have HS := Lib.hid hs
  rw [← hs] at B1
  clear hw1 hS ar1
  refine (callsIn_wide (n := 4)).1 ?_
  refine callsIn_of_wp_marks Tryd.func9 rfl trivial ?_ rfl
  simp only [Tryd.ntmps9, List.size_toArray, List.length_cons, List.length_nil, Nat.reduceAdd, Nat.reduceSub, Array.replicate_succ, Array.replicate_zero, List.push_toArray, List.append_toArray, List.nil_append, List.cons_append]
  refine wpIn_wide.2 ?_
  go_upto_region 1 with fail
  rw [← HW1.out, ← HS.out]
  clear hs
  go_wp2_with fail
  refine HN.out.mono ?_
  rintro e w2' ⟨hb, ⟨h0, _⟩ | ⟨p, g, hg, rfl, hL⟩⟩
  · rw [hneed] at h0; cases h0
  rw [hneed] at hg
  obtain rfl : g = 1 := by omega
  obtain ⟨Mb, hMb⟩ : ∃ Mb, Mb = w2'.heap.size := ⟨_, rfl⟩
  obtain ⟨w3, hw3⟩ : ∃ w3, w3 = w2'.alloc (.cells #[.pointer (some ⟨p.b, 0, none⟩)] 26) := ⟨_, rfl⟩
  have B12 : Hid (Below w1.heap.size w1 w2') := hb
  have K3 : Hid (Below w2'.heap.size w2' w3) := by rw [hw3]; exact (Below.refl _ w2').alloc (Nat.le_refl _) _
  have M3 : Hid (w3.heap[Mb]? = some (.cells #[.pointer (some ⟨p.b, 0, none⟩)] 26 (0, 0))) := by
    show _ = _
    rw [hw3, hMb]
    exact heap_alloc_new w2' _
  have L3 : Hid (MS.Live w3 w1.heap.size p a0 b0 (empty 1)) := hL.below (Nat.le_refl _) K3.out
  have B3 : Hid (Below w1.heap.size w1 w3) := B12.out.trans (K3.out.mono B12.out.size)
  have O3 : Hid (∀ j, p.own j → j ≠ Mb) := fun j hj e => by have := hL.at_.lt hj; omega
  have ZM : Hid (w1.heap.size ≤ Mb) := by rw [hMb]; exact hb.size
  have HW3 := Lib.hid hw3
  have HMb := Lib.hid hMb
  clear hb hL hg hneed c0 d1 hw3 hMb
  have m3 : w3.cell? ⟨Mb, 0, none⟩ = some (.pointer (some ⟨p.b, 0, none⟩)) := by simp [World.cell?, M3.out]
  have BW3 : Hid (Below s w w3) := B1.out.trans (B3.out.mono (by have := Z1.out; omega))
  go_upto_region 2 with fail
  rw [← HMb.out, ← HW3.out]
  have HFE := Lib.hid (few6_any s1 n1 c1 xs1 w3 (HAR.out.below (Nat.le_of_eq HS.out.symm) BW3.out))
  go_wp2_with fail
  refine HFE.out.mono ?_
  rintro e w4 ⟨b, rfl, hb4, hfew⟩
  have L4 := Lib.hid (L3.out.below (Nat.le_refl _) hb4)
  have B4 : Hid (Below w1.heap.size w1 w4) := B3.out.trans (hb4.mono B3.out.size)
  have M4 : Hid (w4.heap[Mb]? = some (.cells #[.pointer (some ⟨p.b, 0, none⟩)] 26 (0, 0))) := (hb4.block _ (Array.getElem?_eq_some_iff.1 M3.out).1).trans M3.out
  have HFew := Lib.hid hfew
  have m4 : w4.cell? ⟨Mb, 0, none⟩ = some (.pointer (some ⟨p.b, 0, none⟩)) := by simp [World.cell?, M4.out]
  have BW4 : Hid (Below s w w4) := B1.out.trans (B4.out.mono (by have := Z1.out; omega))
  clear hb4 hfew m3
  cases b
  · go_wp2_with fail
    refine (HLV.out _ BW4.out).mono ?_
    rintro e w5 ⟨rfl, hb5⟩
    have R5 : Hid (w5.heap[s + 2]? = some (.cells #[.bool false] 4 (0, 0))) := by
      have h1 := HR1.out
      have hl1 := (Array.getElem?_eq_some_iff.1 h1).1
      exact (hb5.block _ (Nat.lt_of_lt_of_le hl1 B4.out.size)).trans ((B4.out.block _ hl1).trans h1)
    have r5 : w5.cell? ⟨s + 1 + 1, 0, none⟩ = some (.bool false) := by simp [World.cell?, R5.out]
    have f5 : w5.frozen? ⟨s + 1 + 1, 0, none⟩ = false := by simp [World.frozen?, R5.out]
    have BW5 : Hid (Below s w w5) := BW4.out.trans (hb5.mono (by have := BW4.out.size; have := HS.out; omega))
    clear hb5
    go_wp2
    refine ⟨.bool true, ?_, rfl, ?_⟩
    · simp [results, Tryd.results9, go_sem, r5]
    · rw [← HS.out]; exact BW5.out.setCell (p := ⟨s + 2, 0, none⟩) (by show s ≤ s + 2; omega) _
  have HF : Hid (Few6 xs1 n1) := HFew.out (by simp)
  have hn500 : n1 ≤ 500 := HF.out.1
  go_wp2
  go_loopw [34] (fun i wr => ∃ (k : Nat) (q : Pl) (m : Mp ByteArray), k ≤ n1 ∧ i = .int .i64 k ∧ q.b = p.b ∧ MS.Live wr w1.heap.size q a0 b0 m ∧ m.n ≤ k ∧ (∀ j, q.own j → j ≠ Mb) ∧ wr.heap[Mb]? = some (.cells #[.pointer (some ⟨p.b, 0, none⟩)] 26 (0, 0)) ∧ Below w1.heap.size w1 wr) (fun i _ => n1 - (intOf i).toNat)
  case atStart => exact ⟨0, p, _, by omega, rfl, rfl, L4.out, Nat.le_refl _, O3.out, M4.out, B4.out⟩
  case round =>
    obtain ⟨k, q, m, hk, rfl, hq, hLq, hmk, ho, hM, hB⟩ := hrel
    have HLq := Lib.hid hLq
    have HBr := Lib.hid hB
    have HQ := Lib.hid hq
    have HMK := Lib.hid hmk
    have HO := Lib.hid ho
    have HM := Lib.hid hM
    have mr : wr.cell? ⟨Mb, 0, none⟩ = some (.pointer (some ⟨p.b, 0, none⟩)) := by simp [World.cell?, hM]
    have BWr : Hid (Below s w wr) := B1.out.trans (hB.mono (by have := Z1.out; omega))
    clear hLq hB hq hmk ho hM m4
    by_cases hlt : k < n1
    · have hd2 : decide ((k : Int) < (n1 : Int)) = true := decide_eq_true (by omega)
      have hkn : (k : Int) < (n1 : Int) := by omega
      obtain ⟨b, off, rfl, x0, x1, x2⟩ := (HAR.out.below (Nat.le_of_eq HS.out.symm) BWr.out).act hlt
      obtain ⟨x, hx⟩ : ∃ x, x = xs1.getD k default := ⟨_, rfl⟩
      have hxk : x.key.size ≤ maxLen := by
        have h1 := (HF.out.2 k hlt).1
        rw [← hx] at h1
        exact Nat.le_trans (Nat.le_of_lt h1) (by decide : 40000 ≤ maxLen)
      rw [← hx] at x0 x1 x2
      have HXK := Lib.hid hxk
      clear hx hxk
      obtain ⟨wA, hwA⟩ : ∃ wA, wA = wr.alloc (.cells #[.int .i64 x.k, .string x.key, .string x.val] 45) := ⟨_, rfl⟩
      have BA : Hid (Below wr.heap.size wr wA) := by rw [hwA]; exact (Below.refl _ wr).alloc (Nat.le_refl _) _
      have LX := Lib.hid (HLq.out.below (Nat.le_refl _) BA.out)
      have BX : Hid (Below w1.heap.size w1 wA) := HBr.out.trans (BA.out.mono HBr.out.size)
      have MA' : Hid (wA.heap[Mb]? = some (.cells #[.pointer (some ⟨p.b, 0, none⟩)] 26 (0, 0))) := (BA.out.block _ (Array.getElem?_eq_some_iff.1 HM.out).1).trans HM.out
      have y1 : wA.cell? ⟨wr.heap.size, 1, none⟩ = some (.string x.key) := by rw [hwA]; simp
      have y2 : wA.cell? ⟨wr.heap.size, 2, none⟩ = some (.string x.val) := by rw [hwA]; simp
      have ma : wA.cell? ⟨Mb, 0, none⟩ = some (.pointer (some ⟨p.b, 0, none⟩)) := by simp [World.cell?, MA'.out]
      have HWA := Lib.hid hwA
      have hpu := MS.put_live LX.out x.key x.val HXK.out
      have hpn := put_n HLq.out.inv x.key x.val (by have := HMK.out; omega)
      rw [HQ.out] at hpu
      have HPU := Lib.hid hpu
      have HPN := Lib.hid hpn.1
      clear hpu hpn hwA mr
      go_upto_region 7 with fail
      rw [← HWA.out]
      clear x0 x1 x2
      go_wp2_with fail
      refine HPU.out.mono ?_
      rintro e w5 ⟨rfl, q2, hq2, hL2, ho2, hK2⟩
      have L2 := Lib.hid hL2
      have B5 : Hid (Below w1.heap.size w1 w5) := BX.out.trans (LX.out.low hK2)
      have HQ2 := Lib.hid (hq2.trans HQ.out)
      have HMl : Mb < wr.heap.size := (Array.getElem?_eq_some_iff.1 HM.out).1
      have M5 : Hid (w5.heap[Mb]? = some (.cells #[.pointer (some ⟨p.b, 0, none⟩)] 26 (0, 0))) := (hK2.block _ (Array.getElem?_eq_some_iff.1 MA'.out).1 (fun e => HO.out Mb e rfl)).trans MA'.out
      have O2 : Hid (∀ j, q2.own j → j ≠ Mb) := fun j hj e => by
        rcases ho2 j hj with h | h
        · exact HO.out j h e
        · have := BA.out.size; omega
      clear hL2 hK2 hq2 ho2
      go_wp2_with fail
      go_roundw
      case rel => exact ⟨k + 1, q2, _, by omega, by go_num, HQ2.out, L2.out, by have := HPN.out; have := HMK.out; omega, O2.out, M5.out, B5.out⟩
      case measure => simp [intOf]; omega
    · obtain rfl : k = n1 := by omega
      have hd2 : decide ((k : Int) < (k : Int)) = false := decide_eq_false (by omega)
      obtain ⟨wC, hwC⟩ : ∃ wC, wC = wr := ⟨_, rfl⟩
      rw [← hwC] at HLq HBr HM BWr mr ⊢
      clear hwC
      obtain ⟨Bx, hBx⟩ : ∃ Bx, Bx = wC.heap.size := ⟨_, rfl⟩
      obtain ⟨wD, hwD⟩ : ∃ wD, wD = wC.alloc (.cells #[.pointer (some ⟨p.b, 0, none⟩)] 26) := ⟨_, rfl⟩
      have hal := MS.all_any (some ⟨p.b, 0, none⟩) wC
      rw [← hBx, ← hwD] at hal
      have HAL := Lib.hid hal
      clear hal
      have BD : Hid (Below wC.heap.size wC wD) := by rw [hwD]; exact (Below.refl _ wC).alloc (Nat.le_refl _) _
      have HBD : Hid (wD.heap[Bx]? = some (.cells #[.pointer (some ⟨p.b, 0, none⟩)] 26 (0, 0))) := by show _ = _; rw [hwD, hBx]; exact heap_alloc_new wC _
      have ZD : Hid (wD.heap.size = Bx + 1) := by show _ = _; rw [hwD, hBx]; simp
      have hnn : (binOp .eql 75 (.func (.func 88) #[] #[.pointer (some ⟨Bx, 0, none⟩)]) .nilFunc).run Tryd.prog wD = .ok (.bool false) wD := by kernel_rfl
      have HBx := Lib.hid hBx
      clear hBx hwD
      go_wp2_with fail
      refine HAL.out.mono ?_
      rintro e w5 ⟨rfl, rfl⟩
      obtain ⟨N, hN⟩ : ∃ N, N = m.n := ⟨_, rfl⟩
      obtain ⟨B, hB⟩ : ∃ B, B = MS.keysL m := ⟨_, rfl⟩
      have hBN : B.length = N := by rw [hB, hN]; exact MS.keysL_len HLq.out.inv
      have hN5 : N ≤ 500 := by have := HMK.out; omega
      obtain ⟨Lb, hLb⟩ : ∃ Lb, Lb = w5.heap.size := ⟨_, rfl⟩
      obtain ⟨wF, hwF⟩ : ∃ wF, wF = (w5.alloc (.cells #[.slice none 0 0] 30)).alloc (.cells #[.slice none 0 0] 30) := ⟨_, rfl⟩
      have BF : Hid (Below w5.heap.size w5 wF) := by rw [hwF]; exact ((Below.refl _ w5).alloc (Nat.le_refl _) _).alloc (by simp) _
      have ZF : Hid (wF.heap.size = Lb + 2) := by show _ = _; rw [hwF, hLb]; simp
      have FL : Hid (wF.heap[Lb]? = some (.cells #[.slice none 0 0] 30 (0, 0))) := by
        show _ = _
        rw [hwF, hLb, Below.heap_alloc _ _ _ (by simp)]; exact heap_alloc_new w5 _
      have FP : Hid (Boxed wF (Lb + 1) 30 (.slice none 0 0)) := by
        show Boxed _ _ _ _
        rw [hwF, hLb]
        have := heap_alloc_new (w5.alloc (.cells #[.slice none 0 0] 30)) (.cells #[.slice none 0 0] 30)
        simpa [Boxed] using this
      have ZB : Hid (Lb = Bx + 1 ∧ Bx = wC.heap.size ∧ Mb < Bx ∧ s + 3 ≤ Bx) := ⟨by rw [hLb]; exact ZD.out, HBx.out, by rw [HBx.out]; exact (Array.getElem?_eq_some_iff.1 HM.out).1, by have := HBr.out.size; have := Z1.out; have := HBx.out; omega⟩
      have LF : Hid (MS.Live wF w1.heap.size q a0 b0 m) := (HLq.out.below (Nat.le_refl _) BD.out).below (Nat.le_refl _) BF.out
      have OF : Hid (∀ j, q.own j → j < Bx) := fun j hj => by rw [HBx.out]; exact HLq.out.at_.lt hj
      have FB : Hid (wF.heap[Bx]? = some (.cells #[.pointer (some ⟨q.b, 0, none⟩)] 26 (0, 0))) := by show _ = _; rw [HQ.out]; exact (BF.out.block _ (Array.getElem?_eq_some_iff.1 HBD.out).1).trans HBD.out
      have FM : Hid (wF.heap[Mb]? = some (.cells #[.pointer (some ⟨p.b, 0, none⟩)] 26 (0, 0))) := (BF.out.block _ (by have := ZB.out; have := ZD.out; omega)).trans ((BD.out.block _ (Array.getElem?_eq_some_iff.1 HM.out).1).trans HM.out)
      have BWF : Hid (Below w1.heap.size w1 wF) := (HBr.out.trans (BD.out.mono HBr.out.size)).trans (BF.out.mono (Nat.le_trans HBr.out.size BD.out.size))
      have FS : Hid (wF.cell? ⟨s + 1, 0, none⟩ = some (.int .i64 a2)) := low_cell BWF.out (Nat.le_refl _) HC1.out
      have hFS := cell_lt FS.out
      obtain ⟨i0, hi, hz0, hz1, hz2⟩ := info_parts infoT
      have HN' := Lib.hid hN
      have HBB := Lib.hid hB
      have HBN := Lib.hid hBN
      have HWF := Lib.hid hwF
      have HLb := Lib.hid hLb
      clear hN hB hBN hwF hLb hFS mr
      go_wp2_with fail
      rw [← HWF.out, ← HLb.out]
      refine (wpIn_wide (n := 4)).1 ?_
      refine range_walk (n := 4) (w := wF) rfl (by omega) (gf := 88) (lb := #[.pointer (some ⟨Bx, 0, none⟩)]) rfl trivial (enters_of Tryd.func88 (by kernel_rfl) rfl)
        (MS.all_r 3 (by omega) Bx (Lb + 1) w1.heap.size q a0 b0 m wF FB.out LF.out (by have := ZF.out; omega) (by have := ZB.out; omega) (fun e => by have := OF.out _ e; have := ZB.out; omega) (by omega))
        (Below.refl _ _) (by have := ZF.out; omega) (fun _ => rfl)
        (fun hi k W => (∃ v, Boxed W (Lb + 1) 30 v ∧ W.ownsRow hi 9 1 v k (textsV (B.take k))) ∧ Kept (fun j => j = Lb + 1 ∨ wF.heap.size ≤ j) wF W)
        (fun hi W => (∃ v j, j ≤ N ∧ Boxed W (Lb + 1) 30 v ∧ W.ownsRow hi 9 1 v j (textsV (B.take j))) ∧ Kept (fun j => j = Lb + 1 ∨ wF.heap.size ≤ j) wF W)
        2 ?h0 ?hI ?hIx ?a1 ?assign ?body ?done ?stop
      case h0 =>
        intro W1 hW
        exact ⟨⟨_, (hW.block _ (by have := ZF.out; omega)).trans FP.out, World.ownsRow_nil _ _ _ _⟩, Kept.of hW (Nat.le_refl _)⟩
      case hI =>
        rintro hi k A C ⟨⟨v, h1, h2⟩, h3⟩ hk
        exact ⟨⟨v, (hk.block _ h1.lt (fun e => by have := ZF.out; omega)).trans h1, own_sep h2 hk (fun r hr e => by have := (own_lt h2 hr).1; omega)⟩, h3.trans (hk.weaken fun j hj => .inr hj.1)⟩
      case hIx =>
        rintro hi A C ⟨⟨v, j, hj, h1, h2⟩, h3⟩ hk
        exact ⟨⟨v, j, hj, (hk.block _ h1.lt (fun e => by have := ZF.out; omega)).trans h1, own_sep h2 hk (fun r hr e => by have := (own_lt h2 hr).1; omega)⟩, h3.trans (hk.weaken fun j hj => .inr hj.1)⟩
      case assign =>
        intro l x W K hK
        gi_wp2
        exact hK
      case body =>
        intro l hi2 k' W hinv hl1 hl2 hsz hkN
        obtain ⟨⟨v, hv, hrow⟩, hkw⟩ := hinv
        have hc := hv.cell
        obtain ⟨A, cc, rfl, hcc⟩ := own_val hrow
        have z1 : Lb + 2 ≤ wF.heap.size ∧ wF.heap.size ≤ Lb + 2 := by have := ZF.out; omega
        have z2 : s + 3 ≤ Bx ∧ Bx + 1 ≤ Lb ∧ Mb < Bx := by have := ZB.out; omega
        have z3 : k' < N := by rw [HN'.out]; exact hkN
        have hst : W.cell? ⟨s + 1, 0, none⟩ = some (.int .i64 a2) := kept_cell hkw FS.out (fun e => by have e' : s + 1 = Lb + 1 ∨ wF.heap.size ≤ s + 1 := e; omega)
        have hlt := hv.lt
        obtain ⟨kk, hkk⟩ : ∃ kk, kk = MS.keyN m k' := ⟨_, rfl⟩
        have HTK : Hid (textsV (B.take (k' + 1)) = textsV (B.take k') ++ [.string kk]) := by
          show _ = _
          have h1 : k' < B.length := by rw [HBN.out]; omega
          rw [List.take_succ_eq_append_getElem h1]
          have h2 := MS.keyN_at (m := m) (k := k') (by rw [← HBB.out]; exact h1)
          rw [← HBB.out, List.getElem?_eq_getElem h1] at h2
          rw [Option.some.inj h2, hkk]
          simp [textsV]
        rw [← hkk]
        have HKW := Lib.hid hkw
        clear hkk hkw hnn
        by_cases hq : (k' : Int) = a2
        · have hq' : ((k' : Int) == a2) = true := beq_iff_eq.2 hq
          have HQ' := Lib.hid hq
          clear hq
          gi_wp2
          exact ⟨rfl, Kept.refl _ _, ⟨_, k', by omega, hv, hrow⟩, HKW.out⟩
        · have hq' : ((k' : Int) == a2) = false := beq_eq_false_iff_ne.2 hq
          clear hq
          gi_wp2_with (gi_at_builtin; refine wpListIn_append_own _ rfl _ _ 30 rfl hi2 9 i0 _ 1 16 Tryd.underlying30 hi hz0 hz1 hz2 rfl (by decide) _ _ _ rfl (hrow.alloc _) ⟨W.heap.size, 0, none⟩ 1 1 [.string kk] rfl rfl (cell_one_new _ _ _) (by simp [Value.oneCell']) (by simp only [maxLen]; omega) (by omega) (by simp; omega) ?_; intro v' w1' hown' hgrow _; obtain ⟨g', cap', rfl⟩ := ownsRow_succ hown'; obtain ⟨hv1, hv2, hr2, hk2, hkp2, hb2⟩ := appended2 hv (by omega) hrow (by omega) hown' hgrow; have hc1 := hv1.cell; have hf1 := hv1.frozen)
          have K' : Kept (fun j => j = Lb + 1 ∨ hi2 ≤ j) W (w1'.setCell ⟨Lb + 1, 0, none⟩ (.slice (some ⟨g', 0, none⟩) (k' + 1) cap')) := (((Kept.refl _ W).alloc _).grown hgrow (fun r er => .inl (.inr (own_blk hrow er)))).setCell (p := ⟨Lb + 1, 0, none⟩) (.inl (.inl rfl)) _
          refine ⟨K', ⟨_, hv2, ?_⟩, HKW.out.trans (K'.weaken fun j hj => hj.imp id (fun h => by omega))⟩
          rw [HTK.out]
          exact hr2
      case done =>
        rintro D hi2 W hD1 hD2 ⟨⟨v, hv, hrow⟩, hkw⟩ hK
        obtain ⟨j, hj⟩ : ∃ j, j = m.n := ⟨_, rfl⟩
        rw [← hj] at hrow
        have hjN : j ≤ N := by rw [hj, HN'.out]; exact Nat.le_refl _
        clear hj
        obtain ⟨pa, pc, rfl, hpc⟩ := own_val hrow
        have z1 : Lb + 2 ≤ wF.heap.size ∧ wF.heap.size ≤ Lb + 2 := by have := ZF.out; omega
        have z2 : s + 3 ≤ Bx ∧ Bx + 1 ≤ Lb ∧ Mb < Bx := by have := ZB.out; omega
        have HROW := Lib.hid hrow
        have HV := Lib.hid hv
        have HKW := Lib.hid hkw
        have HK1 := Lib.hid hK
        have hszW := hkw.size
        have nS : ∀ j, j < Lb + 1 → ¬ (j = Lb + 1 ∨ wF.heap.size ≤ j) := fun j h e => by omega
        have WL : Hid (Boxed W Lb 30 (.slice none 0 0)) := (hkw.block _ (by omega) (nS _ (by omega))).trans FL.out
        have WB : Hid (W.heap[Bx]? = some (.cells #[.pointer (some ⟨q.b, 0, none⟩)] 26 (0, 0))) := (hkw.block _ (by omega) (nS _ (by omega))).trans FB.out
        have WM : Hid (W.heap[Mb]? = some (.cells #[.pointer (some ⟨p.b, 0, none⟩)] 26 (0, 0))) := (hkw.block _ (by omega) (nS _ (by omega))).trans FM.out
        have WLv : Hid (MS.Live W w1.heap.size q a0 b0 m) := LF.out.kept hkw (fun i h => nS i (by have := OF.out i h; omega)) (nS 0 (by omega))
        have WR : Hid (W.heap[s + 2]? = some (.cells #[.bool false] 4 (0, 0))) := (hkw.block _ (by omega) (nS _ (by omega))).trans ((BWF.out.block _ (by have := Z1.out; omega)).trans HR1.out)
        have BWW : Hid (Below s w W) := (B1.out.trans (BWF.out.mono (by have := Z1.out; omega))).trans (hkw.below (by omega) (fun i _ e => by rcases e with e | e <;> omega))
        have HJN := Lib.hid hjN
        have HDD : Hid (wF.heap.size ≤ D ∧ D < W.heap.size) := ⟨hD1, (Array.getElem?_eq_some_iff.1 hK).1⟩
        have HZW := Lib.hid hszW
        clear hrow hv hkw hK hszW nS z1 z2 hjN hD1 hnn
        go_wp2_with fail
        refine (wpIn_wide (n := 4)).1 ?_
        refine range_walk (n := 4) (w := W) rfl (by omega) (gf := 88) (lb := #[.pointer (some ⟨Bx, 0, none⟩)]) rfl trivial (enters_of Tryd.func88 (by kernel_rfl) rfl)
          (MS.all_r 3 (by omega) Bx Lb w1.heap.size q a0 b0 m W WB.out WLv.out (by have := ZF.out; have := HZW.out; omega) (by have := ZB.out; omega) (fun e => by have := OF.out _ e; have := ZB.out; omega) (by have := ZB.out; omega))
          (Below.refl _ _) (by have := ZF.out; have := HZW.out; omega) (fun _ => rfl)
          (fun hi k V => (∃ v, Boxed V Lb 30 v ∧ V.ownsRow hi 9 1 v k (textsV (B.take k))) ∧ Kept (fun j => j = Lb ∨ W.heap.size ≤ j) W V)
          (fun hi V => False)
          4 ?h0d ?hId ?hIxd ?a1d ?assignd ?bodyd ?doned ?stopd
        case h0d =>
          intro V hV
          exact ⟨⟨_, (hV.block _ (by have := ZF.out; have := HZW.out; omega)).trans WL.out, World.ownsRow_nil _ _ _ _⟩, Kept.of hV (Nat.le_refl _)⟩
        case hId =>
          rintro hi k A C ⟨⟨v, h1, h2⟩, h3⟩ hk
          exact ⟨⟨v, (hk.block _ h1.lt (fun e => by have := ZF.out; have := HZW.out; omega)).trans h1, own_sep h2 hk (fun r hr e => by have := (own_lt h2 hr).1; omega)⟩, h3.trans (hk.weaken fun j hj => .inr hj.1)⟩
        case hIxd => exact fun hi A C h _ => h
        case assignd =>
          intro l x V K hK
          gi_wp2
          exact hK
        case stopd => exact fun D hi V _ _ h _ => h.elim
        case bodyd =>
          intro l hi3 k' V hinv hl1 hl2 hsz hkN
          obtain ⟨⟨v, hv, hrow⟩, hkw⟩ := hinv
          obtain ⟨A, cc, rfl, hcc⟩ := own_val hrow
          have z1 : Lb + 2 ≤ wF.heap.size ∧ wF.heap.size ≤ Lb + 2 := by have := ZF.out; omega
          have z2 : s + 3 ≤ Bx ∧ Bx + 1 ≤ Lb ∧ Mb < Bx := by have := ZB.out; omega
          have z3 : k' < N := by rw [HN'.out]; exact hkN
          have z4 := HZW.out
          have hlt := hv.lt
          have nS : ∀ j, j < W.heap.size → j ≠ Lb → ¬ (j = Lb ∨ W.heap.size ≤ j) := fun j h1 h2 e => by rcases e with e | e; exact h2 e; omega
          have VM : V.heap[Mb]? = some (.cells #[.pointer (some ⟨p.b, 0, none⟩)] 26 (0, 0)) := (hkw.block _ (by omega) (nS _ (by omega) (by omega))).trans WM.out
          have mV : V.cell? ⟨Mb, 0, none⟩ = some (.pointer (some ⟨p.b, 0, none⟩)) := by simp [World.cell?, VM]
          have LV : Hid (MS.Live V w1.heap.size q a0 b0 m) := WLv.out.kept hkw (fun i h => nS i (by have := OF.out i h; omega) (by have := OF.out i h; omega)) (nS 0 (by omega) (by omega))
          obtain ⟨kk, hkk⟩ : ∃ kk, kk = MS.keyN m k' := ⟨_, rfl⟩
          obtain ⟨vv, hvv⟩ : ∃ vv, vv = MS.valN (hashN a0 b0) m k' := ⟨_, rfl⟩
          have HTK : Hid (textsV (B.take (k' + 1)) = textsV (B.take k') ++ [.string kk]) := by
            show _ = _
            have h1 : k' < B.length := by rw [HBN.out]; omega
            rw [List.take_succ_eq_append_getElem h1]
            have h2 := MS.keyN_at (m := m) (k := k') (by rw [← HBB.out]; exact h1)
            rw [← HBB.out, List.getElem?_eq_getElem h1] at h2
            rw [Option.some.inj h2, hkk]
            simp [textsV]
          obtain ⟨hh1, hh2⟩ := MS.keyN_has LV.out.inv hkN
          have hge := MS.get_any q a0 b0 m (MS.keyN m k') (LV.out.keys _ _ hh1) V LV.out.at_ LV.out.inv
          rw [hh2, HQ.out, ← hkk, ← hvv] at hge
          have HGE : Hid (CallsIn (Fence.wide.inRound l) 1 Tryd.prog 19 #[.pointer (some ⟨p.b, 0, none⟩), .string kk] V fun e w' => e = .returned (.tuple #[MS.val vv, .bool true]) ∧ Below V.heap.size V w') := CallsIn.inRound l ((callsIn_wide (n := 1)).2 hge)
          have hfn1 : Fence.wide.fn 19 := trivial
          have hn2 : 1 ≤ 4 - 1 - 1 := by omega
          rw [← hkk, ← hvv]
          have HKW2 := Lib.hid hkw
          clear hkk hvv hkw VM hh1 hh2 hge nS
          gi_wp2_with fail
          refine HGE.out.mono ?_
          rintro e V2 ⟨rfl, hbV⟩
          have hv2' : Boxed V2 Lb 30 (.slice A k' cc) := (hbV.block _ hlt).trans hv
          have hrow2 := own_below hrow (Nat.le_refl _) hbV
          have hlt2 := hv2'.lt
          have hcV := hv2'.cell
          have HBV := Lib.hid hbV
          have hszV := hbV.size
          clear hbV hv hrow hlt mV
          gi_wp2_with (gi_at_builtin; refine wpListIn_append_own _ rfl _ _ 30 rfl hi3 9 i0 _ 1 16 Tryd.underlying30 hi hz0 hz1 hz2 rfl (by decide) _ _ _ rfl (hrow2.alloc _) ⟨V2.heap.size, 0, none⟩ 1 1 [.string kk] rfl rfl (cell_one_new _ _ _) (by simp [Value.oneCell']) (by simp only [maxLen]; omega) (by omega) (by simp; omega) ?_; intro v' w1' hown' hgrow _; obtain ⟨g', cap', rfl⟩ := ownsRow_succ hown'; obtain ⟨hv1, hv2, hr2, hk2, hkp2, hb2⟩ := appended2 hv2' (by omega) hrow2 (by omega) hown' hgrow; have hc1 := hv1.cell; have hf1 := hv1.frozen)
          have K' : Kept (fun j => j = Lb ∨ hi3 ≤ j) V (w1'.setCell ⟨Lb, 0, none⟩ (.slice (some ⟨g', 0, none⟩) (k' + 1) cap')) := (((Kept.of HBV.out (Nat.le_refl _)).alloc _).grown hgrow (fun r er => .inl (.inr (own_blk hrow2 er)))).setCell (p := ⟨Lb, 0, none⟩) (.inl (.inl rfl)) _
          refine ⟨K', ⟨_, hv2, ?_⟩, HKW2.out.trans (K'.weaken fun j hj => hj.imp id (fun h => by omega))⟩
          rw [HTK.out]
          exact hr2
        case doned =>
          rintro D2 hi3 V hE1 hE2 ⟨⟨v, hv, hrow⟩, hkw⟩ hK
          obtain ⟨la, lc, rfl, hlc⟩ := own_val hrow
          have z1 : Lb + 2 ≤ wF.heap.size ∧ wF.heap.size ≤ Lb + 2 := by have := ZF.out; omega
          have z2 : s + 3 ≤ Bx ∧ Bx + 1 ≤ Lb ∧ Mb < Bx := by have := ZB.out; omega
          have z4 := HZW.out
          have nS : ∀ j, j < W.heap.size → j ≠ Lb → ¬ (j = Lb ∨ W.heap.size ≤ j) := fun j h1 h2 e => by rcases e with e | e; exact h2 e; omega
          have hszV := hkw.size
          have eN : m.n = N := HN'.out.symm
          have hBT : B.take m.n = B := List.take_of_length_le (by rw [HBN.out, eN]; exact Nat.le_refl _)
          rw [hBT] at hrow
          rw [eN] at hrow hv hlc
          have VP : Hid (Boxed V (Lb + 1) 30 (.slice pa j pc)) := (hkw.block _ (by omega) (nS _ (by omega) (by omega))).trans HV.out
          have VPr : Hid (V.ownsRow hi2 9 1 (.slice pa j pc) j (textsV (B.take j))) := own_sep HROW.out hkw (fun r hr => nS r (own_lt HROW.out hr).2 (by have := (own_lt HROW.out hr).1; have := HDD.out.1; omega))
          have VM : Hid (V.heap[Mb]? = some (.cells #[.pointer (some ⟨p.b, 0, none⟩)] 26 (0, 0))) := (hkw.block _ (by omega) (nS _ (by omega) (by omega))).trans WM.out
          have VR : Hid (V.heap[s + 2]? = some (.cells #[.bool false] 4 (0, 0))) := (hkw.block _ (by omega) (nS _ (by omega) (by omega))).trans WR.out
          have VLv : Hid (MS.Live V w1.heap.size q a0 b0 m) := WLv.out.kept hkw (fun i h => nS i (by have := OF.out i h; omega) (by have := OF.out i h; omega)) (nS 0 (by omega) (by omega))
          have VK1 : Hid (V.heap[D]? = some (.deferred (some []))) := (hkw.block _ HDD.out.2 (nS _ HDD.out.2 (by have := HDD.out.1; omega))).trans HK1.out
          have BWV : Hid (Below s w V) := BWW.out.trans (hkw.below (by omega) (fun i _ e => by rcases e with e | e <;> omega))
          have VL := Lib.hid hv
          have VLr := Lib.hid hrow
          have VK2 := Lib.hid hK
          have HD2 : Hid (W.heap.size ≤ D2 ∧ D2 < V.heap.size) := ⟨hE1, (Array.getElem?_eq_some_iff.1 hK).1⟩
          have hjN' := HJN.out
          have hcut := MS.cut_head la N lc j (by omega)
          have hd5 : decide ((j : Int) ≤ (N : Int)) = true := decide_eq_true (by omega)
          have hd6 : decide (j ≤ N) = true := decide_eq_true (by omega)
          have SK : Hid (∀ X, Below V.heap.size V X → X.cell? ⟨Lb, 0, none⟩ = some (.slice la N lc) ∧ X.cell? ⟨Mb, 0, none⟩ = some (.pointer (some ⟨p.b, 0, none⟩)) ∧ X.cell? ⟨Lb + 1, 0, none⟩ = some (.slice pa j pc)) := by
            show ∀ X, _
            intro X hX
            exact ⟨low_cell hX (Nat.le_refl _) VL.out.cell, low_cell hX (Nat.le_refl _) (by simp [World.cell?, VM.out]), low_cell hX (Nat.le_refl _) VP.out.cell⟩
          have SK2 : Hid (∀ X, Below V.heap.size V X → (X.setCell ⟨s + 1 + 1, 0, none⟩ (.bool true)).cell? ⟨Lb, 0, none⟩ = some (.slice la N lc) ∧ (X.setCell ⟨s + 1 + 1, 0, none⟩ (.bool true)).cell? ⟨Mb, 0, none⟩ = some (.pointer (some ⟨p.b, 0, none⟩)) ∧ (X.setCell ⟨s + 1 + 1, 0, none⟩ (.bool true)).cell? ⟨Lb + 1, 0, none⟩ = some (.slice pa j pc)) := by
            show ∀ X, _
            intro X hX
            obtain ⟨h1, h2, h3⟩ := SK.out X hX
            have kk : Kept (fun t => t = s + 2) X (X.setCell ⟨s + 1 + 1, 0, none⟩ (.bool true)) := (Kept.refl (fun t => t = s + 2) X).setCell (p := ⟨s + 1 + 1, 0, none⟩) (.inl rfl) _
            exact ⟨kept_cell kk h1 (fun e => by have e' : Lb = s + 2 := e; omega), kept_cell kk h2 (fun e => by have e' : Mb = s + 2 := e; have := ZM.out; have := Z1.out; omega), kept_cell kk h3 (fun e => by have e' : Lb + 1 = s + 2 := e; omega)⟩
          have hk30 := fun X (hX : Below V.heap.size V X) => (MS.keys_any q a0 b0 m X (VLv.out.at_.below (Nat.le_refl _) hX) VLv.out.inv)
          rw [HQ.out, eN, ← HBB.out] at hk30
          have C30 : Hid (∀ X, Below V.heap.size V X → Calls Tryd.prog 30 #[.pointer (some ⟨p.b, 0, none⟩)] X fun e w' => ∃ v, e = .returned v ∧ w'.ownsRow X.heap.size 9 1 v N (textsV B) ∧ Below V.heap.size V w') := fun X hX => (hk30 X hX).mono fun _ _ ⟨v, h1, h2, h3⟩ => ⟨v, h1, h2, hX.trans (h3.mono hX.size)⟩
          have C46 : Hid (∀ X b2 v2, Below V.heap.size V X → X.ownsRow b2 9 1 v2 N (textsV B) → Calls Tryd.prog 46 #[.slice la N lc, v2] X fun e w' => e = .returned (.bool true) ∧ Below V.heap.size V w') := fun X b2 v2 hX h2 => (texts_same B _ v2 hi3 b2 N (by omega) X (own_below VLr.out (Nat.le_refl _) hX) h2).mono fun _ _ ⟨h1, h2⟩ => ⟨h1, hX.trans (h2.mono hX.size)⟩
          have D46 : Hid (∀ X, Below V.heap.size V X → Calls Tryd.prog 46 #[.slice pa j pc, .slice la j lc] X fun e w' => e = .returned (.bool true) ∧ Below V.heap.size V w') := fun X hX =>
            (MS.texts_read (B.take j) _ hi2 la lc j (by omega) X (own_below VPr.out (Nat.le_refl _) hX) (by
              rcases Nat.eq_zero_or_pos j with h0 | h0
              · exact .inl h0
              · obtain ⟨gg, cap, hvv, _, _, _, hcells⟩ := own_read (own_below VLr.out (Nat.le_refl _) hX) (by omega)
                injection hvv with e1 _ _
                refine .inr ⟨gg, e1, fun i x hx => hcells i _ ?_⟩
                rw [List.getElem?_take] at hx
                split at hx
                · simp [textsV, hx]
                · cases hx)).mono fun _ _ ⟨h1, h2⟩ => ⟨h1, hX.trans (h2.mono hX.size)⟩
          have C22 : Hid (∀ X, Below V.heap.size V X → Calls Tryd.prog 22 #[] X fun e w' => e = .returned (.bool true) ∧ Below V.heap.size V w') := fun X hX => (HLV.out X (BWV.out.trans (hX.mono (by have := BWV.out.size; have := HS.out; omega)))).mono fun _ _ ⟨h1, h2⟩ => ⟨h1, hX.trans (h2.mono hX.size)⟩
          have SR : Hid (∀ X, Below V.heap.size V X → X.heap[s + 1 + 1]? = some (.cells #[.bool false] 4 (0, 0))) := fun X hX => (hX.block _ (Array.getElem?_eq_some_iff.1 VR.out).1).trans VR.out
          clear hv hrow hkw hK nS hszV eN hBT hk30 hE1 z4
          go_upto_region 24 with fail
          go_region_held3 (fun X => X.cell? ⟨Lb, 0, none⟩ = some (.slice la N lc) ∧ X.cell? ⟨Mb, 0, none⟩ = some (.pointer (some ⟨p.b, 0, none⟩)) ∧ X.cell? ⟨Lb + 1, 0, none⟩ = some (.slice pa j pc))
            (first | exact SK2.out _ HB9.out | (refine SK.out _ ?_; repeat (first | exact HB9.out | exact HB8.out | exact HB7.out | exact HB6.out | exact Below.refl _ _ | refine Below.drew ?_)))
            (first
              | (go_at_call 30; (with_reducible refine (C30.out _ ?_).mono ?_); (repeat (first | exact Below.refl _ _ | refine Below.drew ?_)); rintro e w6 ⟨v6, rfl, h6, hb6⟩; have V6 := Lib.hid h6; have HB6 := Lib.hid hb6; clear h6 hb6)
              | (go_at_call 46; first
                  | ((with_reducible refine (C46.out _ _ _ HB6.out V6.out).mono ?_); rintro e w7 ⟨rfl, hb7⟩; have HB7 := Lib.hid hb7; clear hb7)
                  | ((with_reducible refine (D46.out _ HB7.out).mono ?_); rintro e w8 ⟨rfl, hb8⟩; have HB8 := Lib.hid hb8; clear hb8))
              | (go_at_call 22; (with_reducible refine (C22.out _ HB8.out).mono ?_); rintro e w9 ⟨rfl, hb9⟩; have HB9 := Lib.hid hb9; have R9 := Lib.hid (SR.out _ hb9); have r9 : w9.cell? ⟨s + 1 + 1, 0, none⟩ = some (.bool false) := (by simp [World.cell?, R9.out]); have f9 : w9.frozen? ⟨s + 1 + 1, 0, none⟩ = false := (by simp [World.frozen?, R9.out]); clear hb9))
          all_goals (
            have hw9 : Kept (fun t => t = s + 2) w9 (w9.setCell ⟨s + 1 + 1, 0, none⟩ (.bool true)) := (Kept.refl (fun t => t = s + 2) w9).setCell (p := ⟨s + 1 + 1, 0, none⟩) (.inl rfl) _
            have hR := heap_setCell_same w9 (s + 1 + 1) 0 _ 4 (.bool true) R9.out
            have hD1' : (w9.setCell ⟨s + 1 + 1, 0, none⟩ (.bool true)).heap[D]? = some (.deferred (some [])) := (hw9.block _ (Nat.lt_of_lt_of_le (Array.getElem?_eq_some_iff.1 VK1.out).1 HB9.out.size) (fun e => by have := HDD.out.1; omega)).trans ((HB9.out.block _ (Array.getElem?_eq_some_iff.1 VK1.out).1).trans VK1.out)
            have hD2' : (w9.setCell ⟨s + 1 + 1, 0, none⟩ (.bool true)).heap[D2]? = some (.deferred (some [])) := (hw9.block _ (Nat.lt_of_lt_of_le (Array.getElem?_eq_some_iff.1 VK2.out).1 HB9.out.size) (fun e => by have := HD2.out.1; have := HDD.out; omega)).trans ((HB9.out.block _ (Array.getElem?_eq_some_iff.1 VK2.out).1).trans VK2.out)
            have BWX : Hid (Below s w (w9.setCell ⟨s + 1 + 1, 0, none⟩ (.bool true))) := (BWV.out.trans (HB9.out.mono (by have := BWV.out.size; have := HS.out; omega))).setCell (p := ⟨s + 1 + 1, 0, none⟩) (by show s ≤ s + 1 + 1; omega) _
            clear r9 f9 hw9
            generalize w9.setCell ⟨s + 1 + 1, 0, none⟩ (.bool true) = wX at *
            have hDD2 : D ≠ D2 := by have := HD2.out.1; have := HDD.out.2; omega
            have hX1 : (wX.putObj D2 (.deferred none)).heap[D]? = some (.deferred (some [])) := (World.putObj_heap_other hDD2).trans hD1'
            have hX2 : ((wX.putObj D2 (.deferred none)).putObj D (.deferred none)).heap[s + 1 + 1]? = some (.cells #[.bool true] 4 (0, 0)) := (World.putObj_heap_other (by have := HDD.out.1; omega)).trans ((World.putObj_heap_other (by have := HD2.out.1; have := HDD.out; omega)).trans hR)
            have rX : ((wX.putObj D2 (.deferred none)).putObj D (.deferred none)).cell? ⟨s + 1 + 1, 0, none⟩ = some (.bool true) := by simp [World.cell?, hX2]
            have HX1 := Lib.hid hX1
            have HX0 := Lib.hid hD2'
            clear hR hD1' hD2' hX1 hX2 hDD2
            go_wp2
            refine ⟨by simp, .inl ⟨_, _, rfl, run_takeDeferred HX0.out, ?_⟩⟩
            refine ⟨by simp, .inl ⟨_, _, rfl, run_takeDeferred HX1.out, ?_⟩⟩
            refine ⟨.bool true, ?_, rfl, ?_⟩
            · simp [results, Tryd.results9, go_sem, rX]
            · rw [← HS.out]
              exact (BWX.out.trans ((kept_put wX D2 _).below (by have := BWX.out.size; have := HS.out; omega) (fun i _ e => by have := HD2.out.1; have := HDD.out; omega))).trans ((kept_put (wX.putObj D2 (.deferred none)) D _).below (by have := BWX.out.size; have := HS.out; simp; omega) (fun i _ e => by have := HDD.out; omega)))
      case stop =>
        rintro D hi2 W hD1 hD2 ⟨⟨v, j, hjN, hv, hrow⟩, hkw⟩ hK
        obtain ⟨pa, pc, rfl, hpc⟩ := own_val hrow
        have z1 : Lb + 2 ≤ wF.heap.size ∧ wF.heap.size ≤ Lb + 2 := by have := ZF.out; omega
        have z2 : s + 3 ≤ Bx ∧ Bx + 1 ≤ Lb ∧ Mb < Bx := by have := ZB.out; omega
        have HROW := Lib.hid hrow
        have HV := Lib.hid hv
        have HKW := Lib.hid hkw
        have HK1 := Lib.hid hK
        have hszW := hkw.size
        have nS : ∀ j, j < Lb + 1 → ¬ (j = Lb + 1 ∨ wF.heap.size ≤ j) := fun j h e => by omega
        have WL : Hid (Boxed W Lb 30 (.slice none 0 0)) := (hkw.block _ (by omega) (nS _ (by omega))).trans FL.out
        have WB : Hid (W.heap[Bx]? = some (.cells #[.pointer (some ⟨q.b, 0, none⟩)] 26 (0, 0))) := (hkw.block _ (by omega) (nS _ (by omega))).trans FB.out
        have WM : Hid (W.heap[Mb]? = some (.cells #[.pointer (some ⟨p.b, 0, none⟩)] 26 (0, 0))) := (hkw.block _ (by omega) (nS _ (by omega))).trans FM.out
        have WLv : Hid (MS.Live W w1.heap.size q a0 b0 m) := LF.out.kept hkw (fun i h => nS i (by have := OF.out i h; omega)) (nS 0 (by omega))
        have WR : Hid (W.heap[s + 2]? = some (.cells #[.bool false] 4 (0, 0))) := (hkw.block _ (by omega) (nS _ (by omega))).trans ((BWF.out.block _ (by have := Z1.out; omega)).trans HR1.out)
        have BWW : Hid (Below s w W) := (B1.out.trans (BWF.out.mono (by have := Z1.out; omega))).trans (hkw.below (by omega) (fun i _ e => by rcases e with e | e <;> omega))
        have HJN := Lib.hid hjN
        have HDD : Hid (wF.heap.size ≤ D ∧ D < W.heap.size) := ⟨hD1, (Array.getElem?_eq_some_iff.1 hK).1⟩
        have HZW := Lib.hid hszW
        clear hrow hv hkw hK hszW nS z1 z2 hjN hD1 hnn
        gi_wp2
        go_wp2_with fail
        refine (wpIn_wide (n := 4)).1 ?_
        refine range_walk (n := 4) (w := W) rfl (by omega) (gf := 88) (lb := #[.pointer (some ⟨Bx, 0, none⟩)]) rfl trivial (enters_of Tryd.func88 (by kernel_rfl) rfl)
          (MS.all_r 3 (by omega) Bx Lb w1.heap.size q a0 b0 m W WB.out WLv.out (by have := ZF.out; have := HZW.out; omega) (by have := ZB.out; omega) (fun e => by have := OF.out _ e; have := ZB.out; omega) (by have := ZB.out; omega))
          (Below.refl _ _) (by have := ZF.out; have := HZW.out; omega) (fun _ => rfl)
          (fun hi k V => (∃ v, Boxed V Lb 30 v ∧ V.ownsRow hi 9 1 v k (textsV (B.take k))) ∧ Kept (fun j => j = Lb ∨ W.heap.size ≤ j) W V)
          (fun hi V => False)
          4 ?h0e ?hIe ?hIxe ?a1e ?assigne ?bodye ?donee ?stope
        case h0e =>
          intro V hV
          exact ⟨⟨_, (hV.block _ (by have := ZF.out; have := HZW.out; omega)).trans WL.out, World.ownsRow_nil _ _ _ _⟩, Kept.of hV (Nat.le_refl _)⟩
        case hIe =>
          rintro hi k A C ⟨⟨v, h1, h2⟩, h3⟩ hk
          exact ⟨⟨v, (hk.block _ h1.lt (fun e => by have := ZF.out; have := HZW.out; omega)).trans h1, own_sep h2 hk (fun r hr e => by have := (own_lt h2 hr).1; omega)⟩, h3.trans (hk.weaken fun j hj => .inr hj.1)⟩
        case hIxe => exact fun hi A C h _ => h
        case assigne =>
          intro l x V K hK
          gi_wp2
          exact hK
        case stope => exact fun D hi V _ _ h _ => h.elim
        case bodye =>
          intro l hi3 k' V hinv hl1 hl2 hsz hkN
          obtain ⟨⟨v, hv, hrow⟩, hkw⟩ := hinv
          obtain ⟨A, cc, rfl, hcc⟩ := own_val hrow
          have z1 : Lb + 2 ≤ wF.heap.size ∧ wF.heap.size ≤ Lb + 2 := by have := ZF.out; omega
          have z2 : s + 3 ≤ Bx ∧ Bx + 1 ≤ Lb ∧ Mb < Bx := by have := ZB.out; omega
          have z3 : k' < N := by rw [HN'.out]; exact hkN
          have z4 := HZW.out
          have hlt := hv.lt
          have nS : ∀ j, j < W.heap.size → j ≠ Lb → ¬ (j = Lb ∨ W.heap.size ≤ j) := fun j h1 h2 e => by rcases e with e | e; exact h2 e; omega
          have VM : V.heap[Mb]? = some (.cells #[.pointer (some ⟨p.b, 0, none⟩)] 26 (0, 0)) := (hkw.block _ (by omega) (nS _ (by omega) (by omega))).trans WM.out
          have mV : V.cell? ⟨Mb, 0, none⟩ = some (.pointer (some ⟨p.b, 0, none⟩)) := by simp [World.cell?, VM]
          have LV : Hid (MS.Live V w1.heap.size q a0 b0 m) := WLv.out.kept hkw (fun i h => nS i (by have := OF.out i h; omega) (by have := OF.out i h; omega)) (nS 0 (by omega) (by omega))
          obtain ⟨kk, hkk⟩ : ∃ kk, kk = MS.keyN m k' := ⟨_, rfl⟩
          obtain ⟨vv, hvv⟩ : ∃ vv, vv = MS.valN (hashN a0 b0) m k' := ⟨_, rfl⟩
          have HTK : Hid (textsV (B.take (k' + 1)) = textsV (B.take k') ++ [.string kk]) := by
            show _ = _
            have h1 : k' < B.length := by rw [HBN.out]; omega
            rw [List.take_succ_eq_append_getElem h1]
            have h2 := MS.keyN_at (m := m) (k := k') (by rw [← HBB.out]; exact h1)
            rw [← HBB.out, List.getElem?_eq_getElem h1] at h2
            rw [Option.some.inj h2, hkk]
            simp [textsV]
          obtain ⟨hh1, hh2⟩ := MS.keyN_has LV.out.inv hkN
          have hge := MS.get_any q a0 b0 m (MS.keyN m k') (LV.out.keys _ _ hh1) V LV.out.at_ LV.out.inv
          rw [hh2, HQ.out, ← hkk, ← hvv] at hge
          have HGE : Hid (CallsIn (Fence.wide.inRound l) 1 Tryd.prog 19 #[.pointer (some ⟨p.b, 0, none⟩), .string kk] V fun e w' => e = .returned (.tuple #[MS.val vv, .bool true]) ∧ Below V.heap.size V w') := CallsIn.inRound l ((callsIn_wide (n := 1)).2 hge)
          have hfn1 : Fence.wide.fn 19 := trivial
          have hn2 : 1 ≤ 4 - 1 - 1 := by omega
          rw [← hkk, ← hvv]
          have HKW2 := Lib.hid hkw
          clear hkk hvv hkw VM hh1 hh2 hge nS
          gi_wp2_with fail
          refine HGE.out.mono ?_
          rintro e V2 ⟨rfl, hbV⟩
          have hv2' : Boxed V2 Lb 30 (.slice A k' cc) := (hbV.block _ hlt).trans hv
          have hrow2 := own_below hrow (Nat.le_refl _) hbV
          have hlt2 := hv2'.lt
          have hcV := hv2'.cell
          have HBV := Lib.hid hbV
          have hszV := hbV.size
          clear hbV hv hrow hlt mV
          gi_wp2_with (gi_at_builtin; refine wpListIn_append_own _ rfl _ _ 30 rfl hi3 9 i0 _ 1 16 Tryd.underlying30 hi hz0 hz1 hz2 rfl (by decide) _ _ _ rfl (hrow2.alloc _) ⟨V2.heap.size, 0, none⟩ 1 1 [.string kk] rfl rfl (cell_one_new _ _ _) (by simp [Value.oneCell']) (by simp only [maxLen]; omega) (by omega) (by simp; omega) ?_; intro v' w1' hown' hgrow _; obtain ⟨g', cap', rfl⟩ := ownsRow_succ hown'; obtain ⟨hv1, hv2, hr2, hk2, hkp2, hb2⟩ := appended2 hv2' (by omega) hrow2 (by omega) hown' hgrow; have hc1 := hv1.cell; have hf1 := hv1.frozen)
          have K' : Kept (fun j => j = Lb ∨ hi3 ≤ j) V (w1'.setCell ⟨Lb, 0, none⟩ (.slice (some ⟨g', 0, none⟩) (k' + 1) cap')) := (((Kept.of HBV.out (Nat.le_refl _)).alloc _).grown hgrow (fun r er => .inl (.inr (own_blk hrow2 er)))).setCell (p := ⟨Lb, 0, none⟩) (.inl (.inl rfl)) _
          refine ⟨K', ⟨_, hv2, ?_⟩, HKW2.out.trans (K'.weaken fun j hj => hj.imp id (fun h => by omega))⟩
          rw [HTK.out]
          exact hr2
        case donee =>
          rintro D2 hi3 V hE1 hE2 ⟨⟨v, hv, hrow⟩, hkw⟩ hK
          obtain ⟨la, lc, rfl, hlc⟩ := own_val hrow
          have z1 : Lb + 2 ≤ wF.heap.size ∧ wF.heap.size ≤ Lb + 2 := by have := ZF.out; omega
          have z2 : s + 3 ≤ Bx ∧ Bx + 1 ≤ Lb ∧ Mb < Bx := by have := ZB.out; omega
          have z4 := HZW.out
          have nS : ∀ j, j < W.heap.size → j ≠ Lb → ¬ (j = Lb ∨ W.heap.size ≤ j) := fun j h1 h2 e => by rcases e with e | e; exact h2 e; omega
          have hszV := hkw.size
          have eN : m.n = N := HN'.out.symm
          have hBT : B.take m.n = B := List.take_of_length_le (by rw [HBN.out, eN]; exact Nat.le_refl _)
          rw [hBT] at hrow
          rw [eN] at hrow hv hlc
          have VP : Hid (Boxed V (Lb + 1) 30 (.slice pa j pc)) := (hkw.block _ (by omega) (nS _ (by omega) (by omega))).trans HV.out
          have VPr : Hid (V.ownsRow hi2 9 1 (.slice pa j pc) j (textsV (B.take j))) := own_sep HROW.out hkw (fun r hr => nS r (own_lt HROW.out hr).2 (by have := (own_lt HROW.out hr).1; have := HDD.out.1; omega))
          have VM : Hid (V.heap[Mb]? = some (.cells #[.pointer (some ⟨p.b, 0, none⟩)] 26 (0, 0))) := (hkw.block _ (by omega) (nS _ (by omega) (by omega))).trans WM.out
          have VR : Hid (V.heap[s + 2]? = some (.cells #[.bool false] 4 (0, 0))) := (hkw.block _ (by omega) (nS _ (by omega) (by omega))).trans WR.out
          have VLv : Hid (MS.Live V w1.heap.size q a0 b0 m) := WLv.out.kept hkw (fun i h => nS i (by have := OF.out i h; omega) (by have := OF.out i h; omega)) (nS 0 (by omega) (by omega))
          have VK1 : Hid (V.heap[D]? = some (.deferred (some []))) := (hkw.block _ HDD.out.2 (nS _ HDD.out.2 (by have := HDD.out.1; omega))).trans HK1.out
          have BWV : Hid (Below s w V) := BWW.out.trans (hkw.below (by omega) (fun i _ e => by rcases e with e | e <;> omega))
          have VL := Lib.hid hv
          have VLr := Lib.hid hrow
          have VK2 := Lib.hid hK
          have HD2 : Hid (W.heap.size ≤ D2 ∧ D2 < V.heap.size) := ⟨hE1, (Array.getElem?_eq_some_iff.1 hK).1⟩
          have hjN' := HJN.out
          have hcut := MS.cut_head la N lc j (by omega)
          have hd5 : decide ((j : Int) ≤ (N : Int)) = true := decide_eq_true (by omega)
          have hd6 : decide (j ≤ N) = true := decide_eq_true (by omega)
          have SK : Hid (∀ X, Below V.heap.size V X → X.cell? ⟨Lb, 0, none⟩ = some (.slice la N lc) ∧ X.cell? ⟨Mb, 0, none⟩ = some (.pointer (some ⟨p.b, 0, none⟩)) ∧ X.cell? ⟨Lb + 1, 0, none⟩ = some (.slice pa j pc)) := by
            show ∀ X, _
            intro X hX
            exact ⟨low_cell hX (Nat.le_refl _) VL.out.cell, low_cell hX (Nat.le_refl _) (by simp [World.cell?, VM.out]), low_cell hX (Nat.le_refl _) VP.out.cell⟩
          have SK2 : Hid (∀ X, Below V.heap.size V X → (X.setCell ⟨s + 1 + 1, 0, none⟩ (.bool true)).cell? ⟨Lb, 0, none⟩ = some (.slice la N lc) ∧ (X.setCell ⟨s + 1 + 1, 0, none⟩ (.bool true)).cell? ⟨Mb, 0, none⟩ = some (.pointer (some ⟨p.b, 0, none⟩)) ∧ (X.setCell ⟨s + 1 + 1, 0, none⟩ (.bool true)).cell? ⟨Lb + 1, 0, none⟩ = some (.slice pa j pc)) := by
            show ∀ X, _
            intro X hX
            obtain ⟨h1, h2, h3⟩ := SK.out X hX
            have kk : Kept (fun t => t = s + 2) X (X.setCell ⟨s + 1 + 1, 0, none⟩ (.bool true)) := (Kept.refl (fun t => t = s + 2) X).setCell (p := ⟨s + 1 + 1, 0, none⟩) (.inl rfl) _
            exact ⟨kept_cell kk h1 (fun e => by have e' : Lb = s + 2 := e; omega), kept_cell kk h2 (fun e => by have e' : Mb = s + 2 := e; have := ZM.out; have := Z1.out; omega), kept_cell kk h3 (fun e => by have e' : Lb + 1 = s + 2 := e; omega)⟩
          have hk30 := fun X (hX : Below V.heap.size V X) => (MS.keys_any q a0 b0 m X (VLv.out.at_.below (Nat.le_refl _) hX) VLv.out.inv)
          rw [HQ.out, eN, ← HBB.out] at hk30
          have C30 : Hid (∀ X, Below V.heap.size V X → Calls Tryd.prog 30 #[.pointer (some ⟨p.b, 0, none⟩)] X fun e w' => ∃ v, e = .returned v ∧ w'.ownsRow X.heap.size 9 1 v N (textsV B) ∧ Below V.heap.size V w') := fun X hX => (hk30 X hX).mono fun _ _ ⟨v, h1, h2, h3⟩ => ⟨v, h1, h2, hX.trans (h3.mono hX.size)⟩
          have C46 : Hid (∀ X b2 v2, Below V.heap.size V X → X.ownsRow b2 9 1 v2 N (textsV B) → Calls Tryd.prog 46 #[.slice la N lc, v2] X fun e w' => e = .returned (.bool true) ∧ Below V.heap.size V w') := fun X b2 v2 hX h2 => (texts_same B _ v2 hi3 b2 N (by omega) X (own_below VLr.out (Nat.le_refl _) hX) h2).mono fun _ _ ⟨h1, h2⟩ => ⟨h1, hX.trans (h2.mono hX.size)⟩
          have D46 : Hid (∀ X, Below V.heap.size V X → Calls Tryd.prog 46 #[.slice pa j pc, .slice la j lc] X fun e w' => e = .returned (.bool true) ∧ Below V.heap.size V w') := fun X hX =>
            (MS.texts_read (B.take j) _ hi2 la lc j (by omega) X (own_below VPr.out (Nat.le_refl _) hX) (by
              rcases Nat.eq_zero_or_pos j with h0 | h0
              · exact .inl h0
              · obtain ⟨gg, cap, hvv, _, _, _, hcells⟩ := own_read (own_below VLr.out (Nat.le_refl _) hX) (by omega)
                injection hvv with e1 _ _
                refine .inr ⟨gg, e1, fun i x hx => hcells i _ ?_⟩
                rw [List.getElem?_take] at hx
                split at hx
                · simp [textsV, hx]
                · cases hx)).mono fun _ _ ⟨h1, h2⟩ => ⟨h1, hX.trans (h2.mono hX.size)⟩
          have C22 : Hid (∀ X, Below V.heap.size V X → Calls Tryd.prog 22 #[] X fun e w' => e = .returned (.bool true) ∧ Below V.heap.size V w') := fun X hX => (HLV.out X (BWV.out.trans (hX.mono (by have := BWV.out.size; have := HS.out; omega)))).mono fun _ _ ⟨h1, h2⟩ => ⟨h1, hX.trans (h2.mono hX.size)⟩
          have SR : Hid (∀ X, Below V.heap.size V X → X.heap[s + 1 + 1]? = some (.cells #[.bool false] 4 (0, 0))) := fun X hX => (hX.block _ (Array.getElem?_eq_some_iff.1 VR.out).1).trans VR.out
          clear hv hrow hkw hK nS hszV eN hBT hk30 hE1 z4
          go_upto_region 24 with fail
          go_region_held3 (fun X => X.cell? ⟨Lb, 0, none⟩ = some (.slice la N lc) ∧ X.cell? ⟨Mb, 0, none⟩ = some (.pointer (some ⟨p.b, 0, none⟩)) ∧ X.cell? ⟨Lb + 1, 0, none⟩ = some (.slice pa j pc))
            (first | exact SK2.out _ HB9.out | (refine SK.out _ ?_; repeat (first | exact HB9.out | exact HB8.out | exact HB7.out | exact HB6.out | exact Below.refl _ _ | refine Below.drew ?_)))
            (first
              | (go_at_call 30; (with_reducible refine (C30.out _ ?_).mono ?_); (repeat (first | exact Below.refl _ _ | refine Below.drew ?_)); rintro e w6 ⟨v6, rfl, h6, hb6⟩; have V6 := Lib.hid h6; have HB6 := Lib.hid hb6; clear h6 hb6)
              | (go_at_call 46; first
                  | ((with_reducible refine (C46.out _ _ _ HB6.out V6.out).mono ?_); rintro e w7 ⟨rfl, hb7⟩; have HB7 := Lib.hid hb7; clear hb7)
                  | ((with_reducible refine (D46.out _ HB7.out).mono ?_); rintro e w8 ⟨rfl, hb8⟩; have HB8 := Lib.hid hb8; clear hb8))
              | (go_at_call 22; (with_reducible refine (C22.out _ HB8.out).mono ?_); rintro e w9 ⟨rfl, hb9⟩; have HB9 := Lib.hid hb9; have R9 := Lib.hid (SR.out _ hb9); have r9 : w9.cell? ⟨s + 1 + 1, 0, none⟩ = some (.bool false) := (by simp [World.cell?, R9.out]); have f9 : w9.frozen? ⟨s + 1 + 1, 0, none⟩ = false := (by simp [World.frozen?, R9.out]); clear hb9))
          all_goals (
            have hw9 : Kept (fun t => t = s + 2) w9 (w9.setCell ⟨s + 1 + 1, 0, none⟩ (.bool true)) := (Kept.refl (fun t => t = s + 2) w9).setCell (p := ⟨s + 1 + 1, 0, none⟩) (.inl rfl) _
            have hR := heap_setCell_same w9 (s + 1 + 1) 0 _ 4 (.bool true) R9.out
            have hD1' : (w9.setCell ⟨s + 1 + 1, 0, none⟩ (.bool true)).heap[D]? = some (.deferred (some [])) := (hw9.block _ (Nat.lt_of_lt_of_le (Array.getElem?_eq_some_iff.1 VK1.out).1 HB9.out.size) (fun e => by have := HDD.out.1; omega)).trans ((HB9.out.block _ (Array.getElem?_eq_some_iff.1 VK1.out).1).trans VK1.out)
            have hD2' : (w9.setCell ⟨s + 1 + 1, 0, none⟩ (.bool true)).heap[D2]? = some (.deferred (some [])) := (hw9.block _ (Nat.lt_of_lt_of_le (Array.getElem?_eq_some_iff.1 VK2.out).1 HB9.out.size) (fun e => by have := HD2.out.1; have := HDD.out; omega)).trans ((HB9.out.block _ (Array.getElem?_eq_some_iff.1 VK2.out).1).trans VK2.out)
            have BWX : Hid (Below s w (w9.setCell ⟨s + 1 + 1, 0, none⟩ (.bool true))) := (BWV.out.trans (HB9.out.mono (by have := BWV.out.size; have := HS.out; omega))).setCell (p := ⟨s + 1 + 1, 0, none⟩) (by show s ≤ s + 1 + 1; omega) _
            clear r9 f9 hw9
            generalize w9.setCell ⟨s + 1 + 1, 0, none⟩ (.bool true) = wX at *
            have hDD2 : D ≠ D2 := by have := HD2.out.1; have := HDD.out.2; omega
            have hX1 : (wX.putObj D2 (.deferred none)).heap[D]? = some (.deferred (some [])) := (World.putObj_heap_other hDD2).trans hD1'
            have hX2 : ((wX.putObj D2 (.deferred none)).putObj D (.deferred none)).heap[s + 1 + 1]? = some (.cells #[.bool true] 4 (0, 0)) := (World.putObj_heap_other (by have := HDD.out.1; omega)).trans ((World.putObj_heap_other (by have := HD2.out.1; have := HDD.out; omega)).trans hR)
            have rX : ((wX.putObj D2 (.deferred none)).putObj D (.deferred none)).cell? ⟨s + 1 + 1, 0, none⟩ = some (.bool true) := by simp [World.cell?, hX2]
            have HX1 := Lib.hid hX1
            have HX0 := Lib.hid hD2'
            clear hR hD1' hD2' hX1 hX2 hDD2
            go_wp2
            refine ⟨by simp, .inl ⟨_, _, rfl, run_takeDeferred HX0.out, ?_⟩⟩
            refine ⟨by simp, .inl ⟨_, _, rfl, run_takeDeferred HX1.out, ?_⟩⟩
            refine ⟨.bool true, ?_, rfl, ?_⟩
            · simp [results, Tryd.results9, go_sem, rX]
            · rw [← HS.out]
              exact (BWX.out.trans ((kept_put wX D2 _).below (by have := BWX.out.size; have := HS.out; omega) (fun i _ e => by have := HD2.out.1; have := HDD.out; omega))).trans ((kept_put (wX.putObj D2 (.deferred none)) D _).below (by have := BWX.out.size; have := HS.out; simp; omega) (fun i _ e => by have := HDD.out; omega)))

theorem lifted (os : Os) (started : os.Started) (H : Type) (enc : TypeId × Value → H) :
    ReturnsInHanded {} Tryd.checked os 9 .any (fun w args => (Rows.walkAllSpec.pre enc Tryd.prog Tryd.f9 [] false w args ∧ laidMetH Tryd.prog [("corbel/group.shifts", Rows.laid_corbel_group_shifts)] w) ∧ sizedMet enc Tryd.prog Tryd.f9 (OpenSpec.ofChange Rows.walkAllSpec) false w args)
      (Rows.walkAllSpec.post enc Tryd.prog Tryd.f9 false true false false) := by
  refine returnsInHanded_of_change_and (C := Tryd.checked) (X := fun w _ => laidMetH Tryd.prog [("corbel/group.shifts", Rows.laid_corbel_group_shifts)] w) (fun _ _ _ hh h => h.of_heap hh) own started (by kernel_rfl) Tryd.func9
    (ChangeSpec.witness_at (enc := enc) (C := Tryd.checked) (os := os) (X := fun w _ => laidMetH Tryd.prog [("corbel/group.shifts", Rows.laid_corbel_group_shifts)] w) false (laidWorld os) #[.agg #[.int .u64 0, .int .u64 0], .slice none 0 0, .int .i64 0] 8 rfl (by kernel_rfl) (by kernel_rfl) (by kernel_rfl) (by kernel_rfl) (by kernel_rfl) (laidWorld_met os _)) ?_
  intro W base args ds gs before hval0 hW hcnd hsz0 hL _
  have hsz : (DataW.weightsEach Tryd.prog (Tryd.f9.params.toList ++ Rows.walkAllSpec.plain.varTypes Tryd.prog) (ds ++ gs)).all (· ≤ reachBytes) = true := hsz0
  clear hsz0
  have hval : ∀ (j : Nat) t v, Tryd.f9.params[j]? = some t → args[j]? = some v → Value.okWide Tryd.prog W .any base t v := hval0
  have hW' := hW
  obtain ⟨p, q, hA0, hV, rfl, hfz, hnd⟩ := hW
  have hA : DataW.TrodAll enc Tryd.prog W 0 (fun _ => true) true Tryd.f9.params.toList args.toList ds p := hA0
  rw [Tryd.params9] at hA hval hsz
  obtain ⟨v0, vs0, d0, ds0, p0, q0, hargs, rfl, rfl, h0, r0⟩ := trodAll_cons hA
  obtain ⟨v1, vs1, d1, ds1, p1, q1, rfl, rfl, rfl, h1, r1⟩ := trodAll_cons r0
  obtain ⟨v2, vs2, d2, ds2, p2, q2, rfl, rfl, rfl, h2, r2⟩ := trodAll_cons r1
  obtain ⟨rfl, rfl, rfl⟩ := trodAll_nil r2
  obtain rfl : args = #[v0, v1, v2] := by cases args; simp_all
  obtain ⟨rfl, rfl⟩ := trodVars_none hV
  have hfit0 := fun q hq => of_decide_eq_true (List.all_eq_true.1 hsz q hq)
  clear hsz
  obtain ⟨F0, hfit1⟩ := fit_cons hfit0
  obtain ⟨a0, b0, rfl, rfl, rfl⟩ := open_key (hval 0 24 v0 rfl rfl) h0
  obtain ⟨F1, hfit2⟩ := fit_cons hfit1
  have k1 := h1
  have lt1 : ∀ x ∈ p1, x.block < W.heap.size := by obtain ⟨m, hm⟩ := k1; exact DataW.trod_lt m _ _ _ hm
  obtain ⟨s1, n1, c1, xs1, rfl, ar1⟩ := open_acts6 (hval 1 41 v1 rfl rfl) h1 F1
  obtain ⟨F2, hfit3⟩ := fit_cons hfit2
  obtain ⟨a2, rfl, rfl, rfl, w2⟩ := open_int Tryd.underlying3 (hval 2 3 v2 rfl rfl) h2
  clear hA0 hval0
  try simp only [List.append_nil] at hW'
  refine (walk W (sh_of_laid hL) a0 b0 s1 n1 c1 xs1 ar1 a2 w2).mono fun e W' ⟨he, hg⟩ => ?_
  subst he
  exact ⟨_, rfl, _, _, _, [], _, [], hW', (trodAll_cons_mk (shut_bool Tryd.underlying4 _) trodAll_mk0), (trodAll_cons_mk (shut_key a0 b0) (trodAll_cons_mk (Below.trod laidOut (by kernel_rfl) (of_decide_eq_true (by kernel_rfl)) k1 hg lt1) (trodAll_cons_mk (shut_int Tryd.underlying3 w2) trodAll_mk0))), rfl, hg.frame _, fun h => by cases h⟩

theorem over : Rows.walkAllRow.holds Tryd.pinned (OpenSpec.ofChange Rows.walkAllSpec) :=
  OpenClaim.holds_of_wide 9 Tryd.f9 rfl rfl rfl rfl rfl rfl rfl ⟨rfl, rfl, rfl, rfl, rfl⟩ rfl rfl rfl rfl rfl (by kernel_rfl) Tryd.func9 (by kernel_rfl)
    (of_decide_eq_true (by kernel_rfl)) (by unfold Func.isWrapper; first | (rw [if_pos (by decide +kernel)]; kernel_rfl) | (rw [if_neg (by decide +kernel)]; exact ⟨rfl, rfl⟩))
    (fun os started H enc _ => lifted os started H enc)

/-- ████ THE STATEMENT ████ -/
theorem proved : Rows.WalkAllCardSaid :=
  Claim7.holds_tied_plain_at .later [] [.data] true (true, "7e67664e74d41973af7dd467c0ac8d15e139965457cce989b794987f38f310ec") false
    over (fun _ h => by cases h) (by kernel_rfl) (fun _ h => by cases h) walkAll_row_tie rfl ⟨rfl, rfl⟩ (by kernel_rfl) rfl
    (fun f fn hf hfn => by
      obtain rfl : f = 9 := Option.some.inj ((show Tryd.prog.funcNamed "corbel/corbellaw06.WalkAll" = some 9 by kernel_rfl).symm.trans hf) |>.symm
      obtain rfl : fn = Tryd.f9 := (Option.some.inj (Tryd.func9.symm.trans hfn)).symm
      refine ⟨by kernel_rfl, fun j t ht => ?_⟩
      have hm := Array.mem_of_getElem? ht
      rw [Tryd.params9] at hm
      simp only [List.mem_toArray, List.mem_cons, List.not_mem_nil, or_false] at hm
      rcases hm with rfl | rfl | rfl
      · exact (show Tryd.prog.wantsStandIn 24 = false by kernel_rfl)
      · exact (show Tryd.prog.wantsStandIn 41 = false by kernel_rfl)
      · exact (show Tryd.prog.wantsStandIn 3 = false by kernel_rfl))
    (by kernel_rfl)
#print axioms proved
end Go.Proofs.YtcooapflofiolaaDoor.walkAll
