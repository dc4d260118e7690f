/- Commands: what must hold of their fields. -/
import Derived.Test.YtbgfpmnicpmieaaECmd
namespace Go.Proofs.Ytbgfpmnicpmieaa
open Go Go.RowKit Go.Shelf Go.Sort
set_option linter.unusedVariables false
set_option linter.unusedSimpArgs false
set_option maxRecDepth 100000
set_option maxHeartbeats 1000000
def keyB (a : ByteArray) : Bool := !a.toList.isEmpty && decide ((a.size : Int) ≤ 64)
def valB (a : ByteArray) : Bool := decide ((a.size : Int) ≤ 256)
theorem CM.c {w B k s q a b c d l} (h : CM w B k s q a b c d l) (j : Nat) : w.cell? ⟨B, j, none⟩ = (#[Value.int .i64 k, .int .i64 s, .int .i64 q, .string a, .string b, .string c, .string d, .int .i64 l] : Array Value)[j]? := by
  unfold CM at h; simp [World.cell?, h]
theorem CM.c3 {w B k s q a b c d l} (h : CM w B k s q a b c d l) : w.cell? ⟨B, 3, none⟩ = some (.string a) := h.c 3
theorem CM.c4 {w B k s q a b c d l} (h : CM w B k s q a b c d l) : w.cell? ⟨B, 4, none⟩ = some (.string b) := h.c 4
theorem CM.c5 {w B k s q a b c d l} (h : CM w B k s q a b c d l) : w.cell? ⟨B, 5, none⟩ = some (.string c) := h.c 5
theorem CM.c6 {w B k s q a b c d l} (h : CM w B k s q a b c d l) : w.cell? ⟨B, 6, none⟩ = some (.string d) := h.c 6
theorem CM.c7 {w B k s q a b c d l} (h : CM w B k s q a b c d l) : w.cell? ⟨B, 7, none⟩ = some (.int .i64 l) := h.c 7
theorem FM.c {w F B} (h : FM w F B) : w.cell? ⟨F, 0, none⟩ = some (.func (.func 80) #[] #[.pointer (some ⟨B, 0, none⟩)]) := by
  unfold FM at h; simp [World.cell?, h]
theorem may_any (B : Nat) (k s q : Int) (a b c d : ByteArray) (l : Int) (w : World) (h : CM w B k s q a b c d l) : Calls Try.prog 80 #[.pointer (some ⟨B, 0, none⟩)] w fun e w' => e = .returned (.bool (keyB a)) ∧ w = w' := by
  have h3 := h.c3
  clear h
  go_enter Try.func80, Try.ntmps80
  go_wp2_with fail
  refine (key_any a _).mono ?_
  rintro e w1 ⟨rfl, rfl⟩
  go_wp2_with fail
  go_ret
  exact ⟨rfl, rfl⟩
theorem hput_any (B F : Nat) (k s q : Int) (a b c d : ByteArray) (l : Int) (w : World) (h : CM w B k s q a b c d l) (hf : FM w F B) : Calls Try.prog 82 #[.pointer (some ⟨F, 0, none⟩), .pointer (some ⟨B, 0, none⟩)] w fun e w' => e = .returned (.bool (keyB a && valB c)) ∧ w = w' := by
  have h5 := h.c5
  have hF := hf.c
  have H := Lib.hid h
  clear h hf
  go_enter Try.func82, Try.ntmps82
  go_wp2_with fail
  refine (may_any B k s q a b c d l _ H.out).mono ?_
  rintro e w1 ⟨rfl, rfl⟩
  cases hk : keyB a
  · have HK := Lib.hid hk
    clear hk
    go_wp2_with fail
    go_ret
    exact ⟨ret_bool (by rw [HK.out]; rfl), rfl⟩
  · have HK := Lib.hid hk
    clear hk
    go_wp2_with fail
    refine (value_any c _).mono ?_
    rintro e w1 ⟨rfl, rfl⟩
    go_wp2_with fail
    go_ret
    exact ⟨ret_bool (by rw [HK.out]; rfl), rfl⟩
theorem hcas_any (B F : Nat) (k s q : Int) (a b c d : ByteArray) (l : Int) (w : World) (h : CM w B k s q a b c d l) (hf : FM w F B) : Calls Try.prog 84 #[.pointer (some ⟨F, 0, none⟩), .pointer (some ⟨B, 0, none⟩)] w fun e w' => e = .returned (.bool (keyB a && (valB b && valB c))) ∧ w = w' := by
  have h4 := h.c4
  have h5 := h.c5
  have hF := hf.c
  have H := Lib.hid h
  clear h hf
  go_enter Try.func84, Try.ntmps84
  go_wp2_with fail
  refine (may_any B k s q a b c d l _ H.out).mono ?_
  rintro e w1 ⟨rfl, rfl⟩
  cases hk : keyB a
  · have HK := Lib.hid hk
    clear hk
    go_wp2_with fail
    go_ret
    exact ⟨ret_bool (by rw [HK.out]; rfl), rfl⟩
  · have HK := Lib.hid hk
    clear hk
    go_wp2_with fail
    refine (value_any b _).mono ?_
    rintro e w1 ⟨rfl, rfl⟩
    have HV : Hid (valB b = decide ((b.size : Int) ≤ 256)) := rfl
    rw [← HV.out]
    cases hv : valB b
    · have HB := Lib.hid hv
      clear hv
      go_wp2_with fail
      go_ret
      exact ⟨ret_bool (by rw [HK.out, HB.out]; rfl), rfl⟩
    · have HB := Lib.hid hv
      clear hv
      go_wp2_with fail
      refine (value_any c _).mono ?_
      rintro e w1 ⟨rfl, rfl⟩
      go_wp2_with fail
      go_ret
      exact ⟨ret_bool (by rw [HK.out, HB.out]; rfl), rfl⟩
def scanB (a d : ByteArray) (l : Int) : Bool := decide (max (a.size : Int) d.size ≤ 64) && (decide (1 ≤ l) && decide (l ≤ 64))
theorem hscan_any (B : Nat) (k s q : Int) (a b c d : ByteArray) (l : Int) (w : World) (h : CM w B k s q a b c d l) : Calls Try.prog 85 #[.pointer (some ⟨B, 0, none⟩)] w fun e w' => e = .returned (.bool (scanB a d l)) ∧ w = w' := by
  have h3 := h.c3
  have h6 := h.c6
  have h7 := h.c7
  have HE : Hid (scanB a d l = (decide (max (a.size : Int) d.size ≤ 64) && (decide (1 ≤ l) && decide (l ≤ 64)))) := rfl
  generalize scanB a d l = r at *
  clear h
  go_enter Try.func85, Try.ntmps85
  by_cases c1 : max (a.size : Int) d.size ≤ 64
  · have d1 : decide (max (a.size : Int) d.size ≤ 64) = true := decide_eq_true c1
    rw [d1] at HE
    by_cases c2 : 1 ≤ l
    · have d2 : decide (1 ≤ l) = true := decide_eq_true c2
      rw [d2] at HE
      clear c1 c2
      go_wp2_with fail
      go_ret
      exact ⟨ret_bool (by rw [HE.out]; rfl), rfl⟩
    · have d2 : decide (1 ≤ l) = false := decide_eq_false c2
      rw [d2] at HE
      clear c1
      go_wp2_with fail
      go_ret
      exact ⟨ret_bool (by rw [HE.out]; rfl), rfl⟩
  · have d1 : decide (max (a.size : Int) d.size ≤ 64) = false := decide_eq_false c1
    rw [d1] at HE
    go_wp2_with fail
    go_ret
    exact ⟨ret_bool (by rw [HE.out]; rfl), rfl⟩
theorem hno_any (w : World) : Calls Try.prog 86 #[] w fun e w' => e = .returned (.bool false) ∧ w = w' := by
  go_enter Try.func86, Try.ntmps86
  go_wp2_with fail
  go_ret
  exact ⟨rfl, rfl⟩
end Go.Proofs.Ytbgfpmnicpmieaa
