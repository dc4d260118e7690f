/- Rows of entries; may they stand behind an index and a term. -/
import Derived.Test.YtbgfpmnicpmieaaEGood
namespace Go.Proofs.Ytbgfpmnicpmieaa
open Go Go.RowKit Go.Shelf Go.Sort
set_option linter.unusedVariables false
set_option linter.unusedSimpArgs false
set_option maxRecDepth 100000
set_option maxHeartbeats 1000000
/-- Entries in a row. -/
def ER (w : World) (a : Option Addr) (n : Nat) (es : List Ent) : Prop :=
  es.length = n ∧ (n = 0 ∨ ∃ b off, a = some ⟨b, off, none⟩ ∧ ∀ j, j < n → ∀ c, c < 13 → w.cell? ⟨b, off + j * 13 + c, none⟩ = some ((es.getD j default).cs'.getD c undef))
theorem ER.keep {w w' : World} {a : Option Addr} {n : Nat} {l : List Ent} {m : Nat} (h : ER w a n l) (hm : w.heap.size ≤ m) (hb : Below m w w') : ER w' a n l := by
  refine ⟨h.1, ?_⟩
  rcases h.2 with h0 | ⟨b, off, e, hc⟩
  · exact .inl h0
  · refine .inr ⟨b, off, e, fun j hj c hc' => ?_⟩
    have h1 := hc j hj c hc'
    exact (hb.cell (Nat.lt_of_lt_of_le (cell_block_lt h1) hm)).trans h1
def EKs (w : World) (es : List Ent) : Prop := ∀ e, e ∈ es → EK w e
theorem EKs.keep {w w' : World} {es : List Ent} {m : Nat} (h : EKs w es) (hm : w.heap.size ≤ m) (hb : Below m w w') : EKs w' es := fun e he => (h e he).keep hm hb
theorem getD_mem {es : List Ent} {k : Nat} (h : k < es.length) : es.getD k default ∈ es := by
  rw [List.getD_eq_getElem?_getD, List.getElem?_eq_getElem h]; simp
theorem EKs.at {w : World} {es : List Ent} (h : EKs w es) {k : Nat} (hk : k < es.length) : EK w (es.getD k default) := h _ (getD_mem hk)
def pts (es : List Ent) : List (Int × Int) := es.map fun e => (e.i, e.t)
theorem pts_len (es : List Ent) : (pts es).length = es.length := by simp [pts]
theorem pts_at (es : List Ent) {j : Nat} (h : j < es.length) : (pts es).getD j (0, 0) = ((es.getD j default).i, (es.getD j default).t) := by
  simp [pts, List.getD_eq_getElem?_getD, List.getElem?_eq_getElem h]
theorem ER.ep {w : World} {a : Option Addr} {n : Nat} {l : List Ent} (h : ER w a n l) : EP w a n (pts l) := by
  refine ⟨by rw [pts_len]; exact h.1, ?_⟩
  rcases h.2 with h0 | ⟨b, off, e, hc⟩
  · exact .inl h0
  · refine .inr ⟨b, off, e, fun j hj => ?_⟩
    rw [pts_at l (by rw [h.1]; exact hj)]
    exact ⟨hc j hj 0 (by omega), hc j hj 1 (by omega)⟩
theorem ER.row {w : World} {a : Option Addr} {n : Nat} {l : List Ent} (h : ER w a n l) {k : Nat} (hk : k < n) : ∃ b off, a = some ⟨b, off, none⟩ ∧ ∀ c, c < 13 → w.cell? ⟨b, off + k * 13 + c, none⟩ = some ((l.getD k default).cs'.getD c undef) := by
  rcases h.2 with h0 | ⟨b, off, e, hc⟩
  · omega
  · exact ⟨b, off, e, hc k hk⟩
theorem drop_cons {es : List Ent} {k : Nat} (h : k < es.length) : es.drop k = es.getD k default :: es.drop (k + 1) := by
  rw [List.drop_eq_getElem_cons h, List.getD_eq_getElem?_getD, List.getElem?_eq_getElem h]; rfl
/-- May entries stand behind an index and a term. -/
def chainB : Int → Int → List Ent → Bool
  | _, _, [] => true
  | ix, tm, e :: es => goodE e && (e.i - 1 == ix) && decide (tm ≤ e.t) && chainB e.i e.t es
theorem goodE_pos {e : Ent} (h : goodE e = true) : 1 ≤ e.i ∧ 1 ≤ e.t := by
  unfold goodE at h
  split at h
  · cases h
  · split at h
    · cases h
    · omega
theorem chain_any (ix tm : Int) (a : Option Addr) (n c : Nat) (es : List Ent) (w : World) (h : ER w a n es) (hk : EKs w es) (hn : n ≤ 281474976710656) :
    Calls Try.prog 36 #[.int .i64 ix, .int .i64 tm, .slice a n c] w fun e w' => e = .returned (.bool (chainB ix tm es)) ∧ Below w.heap.size w w' := by
  have HR := Lib.hid h
  have HK := Lib.hid hk
  have HL := Lib.hid h.1
  obtain ⟨s, hs⟩ : ∃ s, s = w.heap.size := ⟨_, rfl⟩
  have HS := Lib.hid hs
  obtain ⟨R, hR⟩ : ∃ R, R = chainB ix tm es := ⟨_, rfl⟩
  have HRR := Lib.hid hR
  rw [← hR]
  clear h hk hs hR
  go_enter Try.func36, Try.ntmps36
  go_wp2_with fail
  go_loopw [0, 1, 11] (fun xv tv iv wr => ∃ (k : Nat) (x t : Int), k ≤ n ∧ iv = .int .i64 k ∧ xv = .int .i64 x ∧ tv = .int .i64 t ∧ R = chainB x t (es.drop k) ∧ Below s w wr) (fun _ _ iv _ => n - (intOf iv).toNat)
  case atStart => exact ⟨0, ix, tm, by omega, rfl, rfl, rfl, HRR.out, Below.refl _ _⟩
  case round =>
    obtain ⟨k, x, t, hk, rfl, rfl, rfl, hE, hB⟩ := hrel
    have R1 := HR.out.keep (Nat.le_of_eq HS.out.symm) hB
    have K1 := Lib.hid (HK.out.keep (Nat.le_of_eq HS.out.symm) hB)
    have HE := Lib.hid hE
    have HB := Lib.hid hB
    clear hB hE
    by_cases hlt : k < n
    · obtain ⟨b, off, rfl, hc⟩ := R1.row hlt
      have hkl : k < es.length := by have := HL.out; omega
      have HC : Hid (R = (goodE (es.getD k default) && ((es.getD k default).i - 1 == x) && decide (t ≤ (es.getD k default).t) && chainB (es.getD k default).i (es.getD k default).t (es.drop (k + 1)))) := by
        show _ = _
        rw [HE.out, drop_cons hkl]; rfl
      have KE := Lib.hid (K1.out.at hkl)
      have q0 := hc 0 (by omega)
      have q1 := hc 1 (by omega)
      have q2 := hc 2 (by omega)
      have q3 := hc 3 (by omega)
      have q4 := hc 4 (by omega)
      have q5 := hc 5 (by omega)
      have q6 := hc 6 (by omega)
      have q7 := hc 7 (by omega)
      have q8 := hc 8 (by omega)
      have q9 := hc 9 (by omega)
      have q10 := hc 10 (by omega)
      have q11 := hc 11 (by omega)
      have q12 := hc 12 (by omega)
      clear hc R1 hkl
      generalize es.getD k default = e at *
      simp only [List.getD_cons_zero, List.getD_cons_succ] at q0 q1 q2 q3 q4 q5 q6 q7 q8 q9 q10 q11 q12
      rw [Nat.add_zero] at q0
      go_wp2_with fail
      have LA : Below wr.heap.size wr (wr.alloc (.cells e.cs'.toArray 37)) := (Below.refl _ wr).alloc (Nat.le_refl _) _
      refine (goodE_any e _ (KE.out.keep (Nat.le_refl _) LA)).mono ?_
      rintro r w1 ⟨rfl, hb⟩
      have hz : s ≤ wr.heap.size := by have := HB.out.size; have := HS.out; omega
      have z0 := (hb.cell (p := ⟨wr.heap.size, 0, none⟩) (by simp)).trans (show _ = some (Value.int .i64 e.i) by simp)
      have z1 := (hb.cell (p := ⟨wr.heap.size, 1, none⟩) (by simp)).trans (show _ = some (Value.int .i64 e.t) by simp)
      have HB1 : Hid (Below s w w1) := (HB.out.alloc hz _).trans (hb.mono (by simp; omega))
      clear hb q0 q1 q2 q3 q4 q5 q6 q7 q8 q9 q10 q11 q12 LA
      cases hg : goodE e
      · have HF : Hid (R = false) := by show _ = _; rw [HC.out, hg]; rfl
        clear hg
        go_wp2_with fail
        go_ret
        exact ⟨ret_bool HF.out.symm, by rw [← HS.out]; exact HB1.out⟩
      have hp := goodE_pos hg
      have hi1 := hp.1
      have hi2 := KE.out.i2
      have HG := Lib.hid hg
      clear hg hp
      by_cases c1 : e.i - 1 = x
      · have d1 : (e.i - 1 != x) = false := by simpa using c1
        have D1 : Hid ((e.i - 1 == x) = true) := by show _ = _; simpa using c1
        clear c1
        by_cases c2 : t ≤ e.t
        · have d2 : decide (e.t < t) = false := decide_eq_false (by omega)
          have HF : Hid (R = chainB e.i e.t (es.drop (k + 1))) := by show _ = _; rw [HC.out, HG.out, D1.out, decide_eq_true c2]; rfl
          clear c2
          go_wp2_with fail
          go_quiet (fail)
          go_wp2_with fail
          go_roundw
          case rel => exact ⟨k + 1, e.i, e.t, by omega, by go_num, rfl, rfl, HF.out, below_drewN' HB1.out nq⟩
          case measure => simp [intOf]; omega
        · have d2 : decide (e.t < t) = true := decide_eq_true (by omega)
          have HF : Hid (R = false) := by show _ = _; rw [HC.out, HG.out, D1.out, decide_eq_false c2]; rfl
          clear c2
          go_wp2_with fail
          go_ret
          exact ⟨ret_bool HF.out.symm, by rw [← HS.out]; exact HB1.out⟩
      · have d1 : (e.i - 1 != x) = true := by simpa using c1
        have D1 : Hid ((e.i - 1 == x) = false) := by show _ = _; simpa using c1
        have HF : Hid (R = false) := by show _ = _; rw [HC.out, HG.out, D1.out]; rfl
        clear c1
        go_wp2_with fail
        go_ret
        exact ⟨ret_bool HF.out.symm, by rw [← HS.out]; exact HB1.out⟩
    · have HT : Hid (R = true) := by
        show _ = _
        rw [HE.out, List.drop_eq_nil_of_le (by have := HL.out; omega)]; rfl
      go_wp2
      go_ret
      exact ⟨ret_bool HT.out.symm, by rw [← HS.out]; exact HB.out⟩
end Go.Proofs.Ytbgfpmnicpmieaa
