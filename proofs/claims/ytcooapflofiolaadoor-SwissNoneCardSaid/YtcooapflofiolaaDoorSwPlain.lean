/- The map of groups as plain data: what the functions do. No program in sight. -/
import Derived.Test.YtcooapflofiolaaDoorGPlain
import Derived.Test.YtcooapflofiolaaDoorPInj
namespace Go.Proofs.YtcooapflofiolaaDoor
open Go Go.RowKit
set_option linter.unusedSimpArgs false
set_option linter.unusedVariables false
set_option linter.unusedSectionVars false
set_option maxRecDepth 100000

/-! ### What group's functions answer, over a word's bytes -/
def mch (x h : Nat) : Nat := setOf (fun b => b == h) (bys x)
def fre (x : Nat) : Nat := setOf (fun b => b == 128 || b == 254) (bys x)
def ful (x : Nat) : Nat := setOf (fun b => decide (b < 128)) (bys x)
def gt (x k : Nat) : Nat := (bys x).getD k 0
def st (x k c : Nat) : Nat := wd ((bys x).set k c)
theorem gt_lt (x k : Nat) : gt x k < 256 := by
  unfold gt
  rw [List.getD_eq_getElem?_getD]
  rcases h : (bys x)[k]? with _ | b
  · decide
  · exact bys_lt x b (List.mem_of_getElem? h)
theorem bys_st (x k : Nat) {c : Nat} (hc : c < 256) : bys (st x k c) = (bys x).set k c := bys_wd ((B8.bys x).set k hc)
theorem gt_st (x : Nat) {k c : Nat} (hk : k < 8) (hc : c < 256) : gt (st x k c) k = c := by
  unfold gt; rw [bys_st x k hc, List.getD_eq_getElem?_getD, List.getElem?_set_self (by rw [bys_len]; exact hk)]; rfl
theorem gt_st_ne (x : Nat) {k j c : Nat} (hc : c < 256) (h : k ≠ j) : gt (st x k c) j = gt x j := by
  unfold gt; rw [bys_st x k hc, List.getD_eq_getElem?_getD, List.getElem?_set_ne h, ← List.getD_eq_getElem?_getD]
theorem st_lt (x k : Nat) {c : Nat} (hc : c < 256) : st x k c < 18446744073709551616 := wd_lt ((B8.bys x).set k hc)
theorem testBit_setOf (p : Nat → Bool) : ∀ (l : List Nat) (i : Nat), (setOf p l).testBit i = (decide (i < l.length) && p (l.getD i 0))
  | [], i => by simp [setOf]
  | b :: l, 0 => by
    simp only [setOf, Nat.testBit_zero, List.length_cons, List.getD_cons_zero]
    cases p b <;> simp <;> omega
  | b :: l, i + 1 => by
    have h1 : ((p b).toNat + 2 * setOf p l) / 2 = setOf p l := by cases p b <;> simp <;> omega
    simp only [setOf, Nat.testBit_succ, h1, testBit_setOf p l i, List.length_cons, List.getD_cons_succ]
    congr 1
    simp
theorem bit_mch (x h i : Nat) (hi : i < 8) : (mch x h).testBit i = (gt x i == h) := by
  unfold mch; rw [testBit_setOf, bys_len, decide_eq_true hi, Bool.true_and]; rfl
theorem bit_fre (x i : Nat) (hi : i < 8) : (fre x).testBit i = (gt x i == 128 || gt x i == 254) := by
  unfold fre; rw [testBit_setOf, bys_len, decide_eq_true hi, Bool.true_and]; rfl
theorem bit_ful (x i : Nat) (hi : i < 8) : (ful x).testBit i = decide (gt x i < 128) := by
  unfold ful; rw [testBit_setOf, bys_len, decide_eq_true hi, Bool.true_and]; rfl
theorem mch_lt (x h : Nat) : mch x h < 256 := @setOf_lt (fun b => b == h) (bys x)
theorem fre_lt (x : Nat) : fre x < 256 := @setOf_lt _ (bys x)
theorem ful_lt (x : Nat) : ful x < 256 := @setOf_lt _ (bys x)
def firstF (n : Nat) : Nat := ((List.range 8).find? fun i => n.testBit i).getD 8
def nextF (n : Nat) : Nat := n &&& ((n + 255) % 256)
def cntF (n : Nat) : Nat := ((List.range 8).filter fun i => n.testBit i).length
theorem firstF_all : ∀ n : Fin 256, (n.val ≠ 0 → firstF n.val < 8 ∧ n.val.testBit (firstF n.val) = true ∧ nextF n.val < n.val) ∧ (∀ i : Fin 8, n.val.testBit i.val = true → firstF n.val ≤ i.val ∧ n.val ≠ 0) ∧ (∀ i : Fin 8, (nextF n.val).testBit i.val = (n.val.testBit i.val && i.val != firstF n.val)) := by decide +kernel
theorem first_lt {n : Nat} (h : n < 256) (h0 : n ≠ 0) : firstF n < 8 := ((firstF_all ⟨n, h⟩).1 h0).1
theorem first_bit {n : Nat} (h : n < 256) (h0 : n ≠ 0) : n.testBit (firstF n) = true := ((firstF_all ⟨n, h⟩).1 h0).2.1
theorem next_lt {n : Nat} (h : n < 256) (h0 : n ≠ 0) : nextF n < n := ((firstF_all ⟨n, h⟩).1 h0).2.2
theorem first_le {n i : Nat} (h : n < 256) (hi : i < 8) (hb : n.testBit i = true) : firstF n ≤ i := ((firstF_all ⟨n, h⟩).2.1 ⟨i, hi⟩ hb).1
theorem nonzero_of {n i : Nat} (h : n < 256) (hi : i < 8) (hb : n.testBit i = true) : n ≠ 0 := ((firstF_all ⟨n, h⟩).2.1 ⟨i, hi⟩ hb).2
theorem next_bit {n i : Nat} (h : n < 256) (hi : i < 8) : (nextF n).testBit i = (n.testBit i && i != firstF n) := (firstF_all ⟨n, h⟩).2.2 ⟨i, hi⟩

/-! ### The map -/
structure Mp (V : Type) where
  ws : List Nat
  ss : List (ByteArray × V)
  n : Nat
  tb : Nat
instance : Inhabited ByteArray := ⟨ByteArray.empty⟩
section
variable {V : Type} [Inhabited V]
def noneW : Nat := 9259542123273814144
def Mp.w (m : Mp V) (j : Nat) : Nat := m.ws.getD j noneW
def Mp.s (m : Mp V) (i : Nat) : ByteArray × V := m.ss.getD i default
def Mp.c (m : Mp V) (i : Nat) : Nat := gt (m.w (i / 8)) (i % 8)
def hit (m : Mp V) (what : Nat) (key : ByteArray) (j i : Nat) : Bool := gt (m.w j) i == what && decide ((m.s (8 * j + i)).1 = key)
def inG (m : Mp V) (what : Nat) (key : ByteArray) (j : Nat) : Option Nat := (List.range 8).find? (hit m what key j)
def empB (m : Mp V) (j : Nat) : Bool := (List.range 8).any fun i => gt (m.w j) i == 128
def findL (m : Mp V) (what : Nat) (key : ByteArray) : List Nat → Option Nat
  | [] => none
  | j :: r => match inG m what key j with
    | some i => some (8 * j + i)
    | none => if empB m j then none else findL m what key r
def grps (h g : Nat) : List Nat := (List.range g).map (el h g)
def freeAt (m : Mp V) (j : Nat) : Option Nat := (List.range 8).find? fun i => gt (m.w j) i == 128 || gt (m.w j) i == 254
def putAt (m : Mp V) (j i what : Nat) (s : ByteArray × V) : Mp V :=
  { ws := m.ws.set j (st (m.w j) i what), ss := m.ss.set (8 * j + i) s, n := m.n + 1, tb := if gt (m.w j) i = 254 then m.tb - 1 else m.tb }
def layL (m : Mp V) (what : Nat) (s : ByteArray × V) : List Nat → Mp V
  | [] => m
  | j :: r => match freeAt m j with
    | some i => putAt m j i what s
    | none => layL m what s r
def empty (g : Nat) : Mp V := ⟨List.replicate g noneW, List.replicate (8 * g) default, 0, 0⟩
def fullI (m : Mp V) : List Nat := (List.range (8 * m.ws.length)).filter fun i => decide (m.c i < 128)
def fullL (m : Mp V) : List (ByteArray × V) := (fullI m).map m.s
def reG (m : Mp V) : Nat := if m.tb = 0 ∨ 7 * m.ws.length < 2 * m.n then m.ws.length * 2 else m.ws.length
variable (H : ByteArray → Nat)
def find (m : Mp V) (key : ByteArray) : Option Nat := findL m (H key % 128) key (grps (H key / 128) m.ws.length)
def lay (m : Mp V) (s : ByteArray × V) : Mp V := layL m (H s.1 % 128) s (grps (H s.1 / 128) m.ws.length)
def rehash (m : Mp V) : Mp V := (fullL m).foldl (lay H) (empty (reG m))
/-- The map that a key goes into, when it is not there. -/
def room (m : Mp V) : Mp V := if 7 * m.ws.length ≤ m.n + m.tb then rehash H m else m
def put (m : Mp V) (key : ByteArray) (v : V) : Mp V :=
  match find H m key with
  | some i => { m with ss := m.ss.set i (key, v) }
  | none => if 2000 ≤ m.n then m else lay H (room H m) (key, v)
def delAt (m : Mp V) (i : Nat) : Mp V :=
  { ws := m.ws.set (i / 8) (st (m.w (i / 8)) (i % 8) (if empB m (i / 8) then 128 else 254)), ss := m.ss.set i default, n := m.n - 1, tb := if empB m (i / 8) then m.tb else m.tb + 1 }
def del (m : Mp V) (key : ByteArray) : Mp V :=
  match find H m key with
  | some i => delAt m i
  | none => m

/-! ### Counting -/
def cnt (p : Nat → Bool) : Nat → Nat
  | 0 => 0
  | n + 1 => cnt p n + (p n).toNat
theorem cnt_congr {p q : Nat → Bool} : ∀ {n : Nat}, (∀ i, i < n → p i = q i) → cnt p n = cnt q n
  | 0, _ => rfl
  | n + 1, h => by rw [cnt, cnt, cnt_congr (fun i hi => h i (by omega)), h n (by omega)]
theorem cnt_set {p q : Nat → Bool} {i : Nat} : ∀ {n : Nat}, i < n → (∀ j, j < n → j ≠ i → p j = q j) → cnt q n + (p i).toNat = cnt p n + (q i).toNat
  | 0, h, _ => by omega
  | n + 1, h, he => by
    rw [cnt, cnt]
    rcases Nat.lt_or_ge i n with hi | hi
    · have := cnt_set hi (fun j hj hne => he j (by omega) hne)
      rw [he n (by omega) (by omega)]; omega
    · obtain rfl : i = n := by omega
      rw [cnt_congr (p := p) (q := q) (fun j hj => he j (by omega) (by omega))]; omega
theorem cnt_le (p : Nat → Bool) : ∀ n, cnt p n ≤ n
  | 0 => Nat.le_refl _
  | n + 1 => by have := cnt_le p n; have := Bool.toNat_le (p n); rw [cnt]; omega
theorem cnt_filter (p : Nat → Bool) : ∀ n, ((List.range n).filter p).length = cnt p n
  | 0 => rfl
  | n + 1 => by
    rw [List.range_succ, List.filter_append, List.length_append, cnt_filter p n, cnt]
    cases h : p n <;> simp [h]
theorem cnt_add {p q r : Nat → Bool} : ∀ {n : Nat}, (∀ i, i < n → (r i).toNat = (p i).toNat + (q i).toNat) → cnt r n = cnt p n + cnt q n
  | 0, _ => rfl
  | n + 1, h => by
    have h1 := h n (by omega)
    have h2 := cnt_add (n := n) (fun i hi => h i (by omega))
    rw [cnt, cnt, cnt]; omega
theorem cnt_pos {p : Nat → Bool} : ∀ {n : Nat}, 0 < cnt p n → ∃ i, i < n ∧ p i = true
  | 0, h => by simp [cnt] at h
  | n + 1, h => by
    cases hp : p n with
    | true => exact ⟨n, by omega, hp⟩
    | false =>
      rw [cnt, hp] at h
      obtain ⟨i, hi, h⟩ := cnt_pos (n := n) (by simpa using h)
      exact ⟨i, by omega, h⟩
theorem cnt_zero {p : Nat → Bool} : ∀ {n : Nat}, (∀ i, i < n → p i = false) → cnt p n = 0
  | 0, _ => rfl
  | n + 1, h => by rw [cnt, cnt_zero (fun i hi => h i (by omega)), h n (by omega)]; rfl
end
end Go.Proofs.YtcooapflofiolaaDoor
