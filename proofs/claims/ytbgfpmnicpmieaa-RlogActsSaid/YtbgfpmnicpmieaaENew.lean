/- A log that is made of any entries; how heavy entries are. -/
import Derived.Test.YtbgfpmnicpmieaaEOwn
namespace Go.Proofs.Ytbgfpmnicpmieaa
open Go Go.RowKit Go.Shelf Go.Sort
set_option linter.unusedVariables false
set_option linter.unusedSimpArgs false
set_option maxRecDepth 100000
set_option maxHeartbeats 1000000
def newB (ix tm : Int) (es : List Ent) : Bool := decide (0 ≤ ix) && (decide (ix ≤ 1099511627776) && (decide (0 ≤ tm) && chainB ix tm es))
def NewP (w : World) (ix tm : Int) (n : Nat) (es : List Ent) (e : Ending) (w' : World) : Prop :=
  (newB ix tm es = false ∧ e = .returned (.pointer none) ∧ Below w.heap.size w w') ∨
  (newB ix tm es = true ∧ ∃ b a' c', e = .returned (.pointer (some ⟨b, 0, none⟩)) ∧ LB w' b ⟨ix, tm, a', n, c', ix, ix, ix + n, true⟩ ∧ w'.ownsRow w.heap.size 37 13 (.slice a' n c') n (flatE es) ∧ w.heap.size ≤ b ∧ Below w.heap.size w w')
theorem new_any (ix tm : Int) (a : Option Addr) (n c : Nat) (es : List Ent) (w : World) (h : ER w a n es) (hk : EKs w es) (hn : n * 168 ≤ 140737488355328) :
    Calls Try.prog 11 #[.int .i64 ix, .int .i64 tm, .slice a n c] w (NewP w ix tm n es) := by
  have HR := Lib.hid h
  have HC := Lib.hid (chain_any ix tm a n c es w h hk (by omega))
  have HN : Hid (newB ix tm es = (decide (0 ≤ ix) && (decide (ix ≤ 1099511627776) && (decide (0 ≤ tm) && chainB ix tm es)))) := rfl
  clear h hk
  go_enter Try.func11, Try.ntmps11
  by_cases c1 : ix < 0
  · have d1 : decide (ix < 0) = true := decide_eq_true c1
    have HF : Hid (newB ix tm es = false) := by show _ = _; rw [HN.out, decide_eq_false (by omega)]; rfl
    clear c1
    go_wp2_with fail
    go_ret
    exact .inl ⟨HF.out, rfl, Below.refl _ _⟩
  have d1 : decide (ix < 0) = false := decide_eq_false c1
  by_cases c2 : 1099511627776 < ix
  · have d2 : decide (1099511627776 < ix) = true := decide_eq_true c2
    have HF : Hid (newB ix tm es = false) := by show _ = _; rw [HN.out, decide_eq_true (by omega), decide_eq_false (by omega)]; rfl
    clear c1 c2
    go_wp2_with fail
    go_ret
    exact .inl ⟨HF.out, rfl, Below.refl _ _⟩
  have d2 : decide (1099511627776 < ix) = false := decide_eq_false c2
  by_cases c3 : tm < 0
  · have d3 : decide (tm < 0) = true := decide_eq_true c3
    have HF : Hid (newB ix tm es = false) := by show _ = _; rw [HN.out, decide_eq_true (by omega), decide_eq_true (by omega), decide_eq_false (by omega)]; rfl
    clear c1 c2 c3
    go_wp2_with fail
    go_ret
    exact .inl ⟨HF.out, rfl, Below.refl _ _⟩
  have d3 : decide (tm < 0) = false := decide_eq_false c3
  have HF : Hid (newB ix tm es = chainB ix tm es) := by show _ = _; rw [HN.out, decide_eq_true (by omega), decide_eq_true (by omega), decide_eq_true (by omega)]; rfl
  go_wp2_with fail
  refine HC.out.mono ?_
  rintro e w1 ⟨rfl, hb⟩
  have L1 := Lib.hid hb
  have R1 := Lib.hid (HR.out.keep (Nat.le_refl _) hb)
  clear hb HC
  cases hc : chainB ix tm es
  · have HG : Hid (newB ix tm es = false) := by show _ = _; rw [HF.out, hc]
    clear hc
    go_wp2_with fail
    go_ret
    exact .inl ⟨HG.out, rfl, L1.out⟩
  have HG : Hid (newB ix tm es = true) := by show _ = _; rw [HF.out, hc]
  clear hc
  go_wp2_with fail
  refine (clone_own a n c es _ R1.out hn).mono ?_
  rintro e w2 ⟨a', c', rfl, hr, hb⟩
  have L2 := Lib.hid (L1.out.trans (hb.mono L1.out.size))
  have R2 := Lib.hid (own_mono hr L1.out.size)
  clear hb hr d1 d2 d3
  go_wp2_with fail
  go_ret
  exact .inr ⟨HG.out, _, a', c', rfl, LB.new w2 ⟨ix, tm, a', n, c', ix, ix, ix + n, true⟩, R2.out.alloc _, L2.out.size, L2.out.alloc L2.out.size _⟩
def wtE (e : Ent) : Int := 1 + ((e.a.size + e.b.size + e.c.size + e.d.size : Nat) : Int) / 20 + e.vn + e.ln
theorem weight_any (e : Ent) (w : World) (h : EK w e) : Calls Try.prog 35 #[e.v] w fun r w' => r = .returned (.int .i64 (wtE e)) ∧ Below w.heap.size w w' := by
  have HW : Hid (wtE e = 1 + ((e.a.size + e.b.size + e.c.size + e.d.size : Nat) : Int) / 20 + e.vn + e.ln) := rfl
  have h1 := h.vm
  have h2 := h.lm
  have h3 := h.sm
  have L1 : Hid (Below w.heap.size w ((w.alloc (.cells e.cs'.toArray 37)).alloc (.cells [.int .i64 e.ck, .int .i64 e.cs, .int .i64 e.cq, .string e.a, .string e.b, .string e.c, .string e.d, .int .i64 e.l].toArray 32))) := ((Below.refl _ w).alloc (Nat.le_refl _) _).alloc (by simp) _
  clear h
  generalize wtE e = r at *
  obtain ⟨i, t, k, ck, cs, cq, a, b, c, d, l, va, vn, vc, la, ln, lc, V, L⟩ := e
  dsimp only at *
  go_enter Try.func35, Try.ntmps35
  go_wp2_with fail
  go_ret
  exact ⟨ret_int (by rw [HW.out]; omega), L1.out⟩
/-- Entries that are no more than are looked at. -/
def Light (es : List Ent) (k : Nat) : Prop := ∀ j, j < k → (es.getD j default).vn ≤ 200 ∧ (es.getD j default).ln ≤ 200
def HeavyP (w : World) (es : List Ent) (e : Ending) (w' : World) : Prop := ∃ r, e = .returned (.bool r) ∧ (r = false → es.length ≤ 200 ∧ Light es es.length) ∧ Below w.heap.size w w'
theorem heavy_any (a : Option Addr) (n c : Nat) (es : List Ent) (w : World) (h : ER w a n es) (hk : EKs w es) (hn : n ≤ 281474976710656) : Calls Try.prog 9 #[.slice a n c] w (HeavyP w es) := by
  have HR := Lib.hid h
  have HK := Lib.hid hk
  have HL := Lib.hid h.1
  obtain ⟨s, hs⟩ : ∃ s, s = w.heap.size := ⟨_, rfl⟩
  have HS := Lib.hid hs
  clear h hk hs
  go_enter Try.func9, Try.ntmps9
  go_wp2_with fail
  go_loopw [3, 8] (fun nv iv wr => ∃ (k : Nat) (x : Int), k ≤ n ∧ iv = .int .i64 k ∧ nv = .int .i64 x ∧ (k : Int) ≤ x ∧ x ≤ 200 ∧ Light es k ∧ Below s w wr) (fun _ iv _ => n - (intOf iv).toNat)
  case atStart => exact ⟨0, 0, by omega, rfl, rfl, by omega, by omega, fun j hj => absurd hj (Nat.not_lt_zero _), Below.refl _ _⟩
  case round =>
    obtain ⟨k, x, hk, rfl, rfl, hkx, hx2, hE, hB⟩ := hrel
    have R1 := HR.out.keep (Nat.le_of_eq HS.out.symm) hB
    have K1 := Lib.hid (HK.out.keep (Nat.le_of_eq HS.out.symm) hB)
    have HE := Lib.hid hE
    have HB := Lib.hid hB
    clear hB hE
    by_cases hlt : k < n
    · obtain ⟨b, off, rfl, hc⟩ := R1.row hlt
      have hkl : k < es.length := by have := HL.out; omega
      have KE := Lib.hid (K1.out.at hkl)
      have q0 := hc 0 (by omega)
      have q1 := hc 1 (by omega)
      have q2 := hc 2 (by omega)
      have q3 := hc 3 (by omega)
      have q4 := hc 4 (by omega)
      have q5 := hc 5 (by omega)
      have q6 := hc 6 (by omega)
      have q7 := hc 7 (by omega)
      have q8 := hc 8 (by omega)
      have q9 := hc 9 (by omega)
      have q10 := hc 10 (by omega)
      have q11 := hc 11 (by omega)
      have q12 := hc 12 (by omega)
      have HLt : Hid ((es.getD k default).vn ≤ 200 → (es.getD k default).ln ≤ 200 → Light es (k + 1)) := by
        show _ → _ → _
        intro h1 h2 j hj
        rcases Nat.lt_succ_iff_lt_or_eq.1 hj with h | rfl
        · exact HE.out j h
        · exact ⟨h1, h2⟩
      clear hc R1 hkl
      generalize es.getD k default = e at *
      simp only [List.getD_cons_zero, List.getD_cons_succ] at q0 q1 q2 q3 q4 q5 q6 q7 q8 q9 q10 q11 q12
      rw [Nat.add_zero] at q0
      go_wp2_with fail
      have LA : Below wr.heap.size wr (wr.alloc (.cells e.cs'.toArray 37)) := (Below.refl _ wr).alloc (Nat.le_refl _) _
      refine (weight_any e _ (KE.out.keep (Nat.le_refl _) LA)).mono ?_
      rintro r w1 ⟨rfl, hb⟩
      have hz : s ≤ wr.heap.size := by have := HB.out.size; have := HS.out; omega
      have HB1 : Hid (Below s w w1) := (HB.out.alloc hz _).trans (hb.mono (by simp; omega))
      have hw1 : 1 ≤ wtE e := by unfold wtE; omega
      have hw2 : wtE e ≤ 1000000000000000000 := by have := KE.out.vm; have := KE.out.lm; have := KE.out.sm; unfold wtE; omega
      have hw3 : Hid (wtE e ≤ 200 → e.vn ≤ 200 ∧ e.ln ≤ 200) := by show _ → _; unfold wtE; omega
      clear hb q0 q1 q2 q3 q4 q5 q6 q7 q8 q9 q10 q11 q12 LA
      generalize wtE e = y at *
      by_cases c1 : 200 < x + y
      · have d1 : decide (200 < x + y) = true := decide_eq_true c1
        clear c1
        go_wp2_with fail
        go_ret
        exact ⟨_, rfl, (fun h => by cases h), by rw [← HS.out]; exact HB1.out⟩
      · have d1 : decide (200 < x + y) = false := decide_eq_false c1
        have HD : Hid (Light es (k + 1)) := HLt.out (hw3.out (by omega)).1 (hw3.out (by omega)).2
        go_wp2_with fail
        go_roundw
        case rel => exact ⟨k + 1, x + y, by omega, by go_num, rfl, by omega, by omega, HD.out, HB1.out⟩
        case measure => simp [intOf]; omega
    · have HF : Hid (es.length ≤ 200 ∧ Light es es.length) := by
        have h1 := HL.out
        have h2 : k = es.length := by omega
        show _ ∧ _
        exact ⟨by omega, by rw [← h2]; exact HE.out⟩
      go_wp2
      go_ret
      exact ⟨_, rfl, (fun _ => HF.out), by rw [← HS.out]; exact HB.out⟩
end Go.Proofs.Ytbgfpmnicpmieaa
