/- Plain facts on words of eight bytes: no program in sight. -/
import Derived.Laws.Bits64b
import Derived.Laws.BitsLemmas
import Derived.RowKit
namespace Go.Proofs.YtcooapflofiolaaDoor
open Go Go.RowKit
set_option linter.unusedSimpArgs false

/-- A word out of its bytes, the lowest first. -/
def wd : List Nat → Nat
  | [] => 0
  | b :: l => b + 256 * wd l
def bys (w : Nat) : List Nat := [w % 256, w / 256 % 256, w / 65536 % 256, w / 16777216 % 256, w / 4294967296 % 256, w / 1099511627776 % 256, w / 281474976710656 % 256, w / 72057594037927936 % 256]
theorem wd_bys {w : Nat} (h : w < 18446744073709551616) : wd (bys w) = w := by simp [wd, bys]; omega
theorem bys_len (w : Nat) : (bys w).length = 8 := rfl
theorem bys_lt (w : Nat) : ∀ b ∈ bys w, b < 256 := by simp [bys]; omega
/-- Eight bytes. -/
def B8 (l : List Nat) : Prop := l.length = 8 ∧ ∀ b ∈ l, b < 256
theorem B8.bys (w : Nat) : B8 (bys w) := ⟨rfl, bys_lt w⟩

theorem testBit_step (a x j : Nat) (ha : a < 256) : (a + 256 * x).testBit j = if j < 8 then a.testBit j else x.testBit (j - 8) := by
  have := Nat.testBit_two_pow_mul_add x (i := 8) (b := a) (by simpa using ha) j
  rw [show (2 ^ 8 * x + a) = a + 256 * x by omega] at this
  exact this
theorem and_step (a b x y : Nat) (ha : a < 256) (hb : b < 256) : (a + 256 * x) &&& (b + 256 * y) = (a &&& b) + 256 * (x &&& y) := by
  have hab : a &&& b < 256 := Nat.lt_of_le_of_lt Nat.and_le_left ha
  apply Nat.eq_of_testBit_eq
  intro j
  rw [Nat.testBit_and, testBit_step a x j ha, testBit_step b y j hb, testBit_step _ _ j hab]
  split <;> simp [Nat.testBit_and]
theorem or_step (a b x y : Nat) (ha : a < 256) (hb : b < 256) : (a + 256 * x) ||| (b + 256 * y) = (a ||| b) + 256 * (x ||| y) := by
  have hab : a ||| b < 256 := Nat.or_lt_two_pow (n := 8) (by simpa using ha) (by simpa using hb)
  apply Nat.eq_of_testBit_eq
  intro j
  rw [Nat.testBit_or, testBit_step a x j ha, testBit_step b y j hb, testBit_step _ _ j hab]
  split <;> simp [Nat.testBit_or]
theorem xor_step (a b x y : Nat) (ha : a < 256) (hb : b < 256) : (a + 256 * x) ^^^ (b + 256 * y) = (a ^^^ b) + 256 * (x ^^^ y) := by
  have hab : a ^^^ b < 256 := Nat.xor_lt_two_pow (n := 8) (by simpa using ha) (by simpa using hb)
  apply Nat.eq_of_testBit_eq
  intro j
  rw [Nat.testBit_xor, testBit_step a x j ha, testBit_step b y j hb, testBit_step _ _ j hab]
  split <;> simp [Nat.testBit_xor]
theorem and_wd : ∀ (l m : List Nat), l.length = m.length → (∀ b ∈ l, b < 256) → (∀ b ∈ m, b < 256) → wd l &&& wd m = wd (List.zipWith (· &&& ·) l m)
  | [], [], _, _, _ => rfl
  | a :: l, b :: m, h, hl, hm => by
    simp only [wd, List.zipWith_cons_cons]
    rw [and_step _ _ _ _ (hl a (by simp)) (hm b (by simp)), and_wd l m (by simpa using h) (fun b hb => hl b (by simp [hb])) (fun b hb => hm b (by simp [hb]))]
theorem or_wd : ∀ (l m : List Nat), l.length = m.length → (∀ b ∈ l, b < 256) → (∀ b ∈ m, b < 256) → wd l ||| wd m = wd (List.zipWith (· ||| ·) l m)
  | [], [], _, _, _ => rfl
  | a :: l, b :: m, h, hl, hm => by
    simp only [wd, List.zipWith_cons_cons]
    rw [or_step _ _ _ _ (hl a (by simp)) (hm b (by simp)), or_wd l m (by simpa using h) (fun b hb => hl b (by simp [hb])) (fun b hb => hm b (by simp [hb]))]
theorem xor_wd : ∀ (l m : List Nat), l.length = m.length → (∀ b ∈ l, b < 256) → (∀ b ∈ m, b < 256) → wd l ^^^ wd m = wd (List.zipWith (· ^^^ ·) l m)
  | [], [], _, _, _ => rfl
  | a :: l, b :: m, h, hl, hm => by
    simp only [wd, List.zipWith_cons_cons]
    rw [xor_step _ _ _ _ (hl a (by simp)) (hm b (by simp)), xor_wd l m (by simpa using h) (fun b hb => hl b (by simp [hb])) (fun b hb => hm b (by simp [hb]))]
/-- Bytes that are all there, written out. -/
theorem B8.out {l : List Nat} (h : B8 l) : ∃ b0 b1 b2 b3 b4 b5 b6 b7, l = [b0, b1, b2, b3, b4, b5, b6, b7] ∧ b0 < 256 ∧ b1 < 256 ∧ b2 < 256 ∧ b3 < 256 ∧ b4 < 256 ∧ b5 < 256 ∧ b6 < 256 ∧ b7 < 256 := by
  obtain ⟨h1, h2⟩ := h
  match l, h1 with
  | [b0, b1, b2, b3, b4, b5, b6, b7], _ => exact ⟨b0, b1, b2, b3, b4, b5, b6, b7, rfl, by simpa using h2⟩
theorem wd_lt : ∀ {l : List Nat}, B8 l → wd l < 18446744073709551616 := by
  intro l h
  obtain ⟨b0, b1, b2, b3, b4, b5, b6, b7, rfl, h⟩ := h.out
  simp [wd]; omega
theorem bys_wd {l : List Nat} (h : B8 l) : bys (wd l) = l := by
  obtain ⟨b0, b1, b2, b3, b4, b5, b6, b7, rfl, h⟩ := h.out
  simp [wd, bys]; omega

/-- The slots whose byte is of some kind, as a set. -/
def setOf (p : Nat → Bool) : List Nat → Nat
  | [] => 0
  | b :: l => (p b).toNat + 2 * setOf p l
theorem setOf_lt : ∀ {p : Nat → Bool} {l : List Nat}, setOf p l < 2 ^ l.length
  | p, [] => by simp [setOf]
  | p, b :: l => by
    have := @setOf_lt p l
    have hb : (p b).toNat ≤ 1 := Bool.toNat_le _
    simp only [setOf, List.length_cons, Nat.pow_succ]; omega
theorem setOf_congr {p q : Nat → Bool} : ∀ {l : List Nat}, (∀ b ∈ l, p b = q b) → setOf p l = setOf q l
  | [], _ => rfl
  | b :: l, h => by simp only [setOf]; rw [h b (by simp), setOf_congr (fun b hb => h b (by simp [hb]))]

def gatherN (x : Nat) : Nat := (x &&& 9259542123273814144) / 128 * 72624976668147840 % 18446744073709551616 / 72057594037927936 % 256
theorem magic : ∀ c0 c1 c2 c3 c4 c5 c6 c7 : Bool, wd [c0.toNat, c1.toNat, c2.toNat, c3.toNat, c4.toNat, c5.toNat, c6.toNat, c7.toNat] * 72624976668147840 % 18446744073709551616 / 72057594037927936 % 256 =
    c0.toNat + 2 * (c1.toNat + 2 * (c2.toNat + 2 * (c3.toNat + 2 * (c4.toNat + 2 * (c5.toNat + 2 * (c6.toNat + 2 * c7.toNat)))))) := by decide +kernel
theorem and128 : ∀ b : Fin 256, b.val &&& 128 = 128 * (decide (128 ≤ b.val)).toNat := by decide +kernel
theorem and128' {b : Nat} (h : b < 256) : b &&& 128 = 128 * (decide (128 ≤ b)).toNat := and128 ⟨b, h⟩
theorem gather_wd {l : List Nat} (h : B8 l) : gatherN (wd l) = setOf (fun b => decide (128 ≤ b)) l := by
  have hh := h
  obtain ⟨b0, b1, b2, b3, b4, b5, b6, b7, rfl, h0, h1, h2, h3, h4, h5, h6, h7⟩ := h.out
  unfold gatherN
  rw [show (9259542123273814144 : Nat) = wd [128, 128, 128, 128, 128, 128, 128, 128] from rfl, and_wd [b0, b1, b2, b3, b4, b5, b6, b7] [128, 128, 128, 128, 128, 128, 128, 128] rfl hh.2 (by simp)]
  simp only [List.zipWith_cons_cons, List.zipWith_nil_right, and128' h0, and128' h1, and128' h2, and128' h3, and128' h4, and128' h5, and128' h6, and128' h7]
  have hs : setOf (fun b => decide (128 ≤ b)) [b0, b1, b2, b3, b4, b5, b6, b7] = (decide (128 ≤ b0)).toNat + 2 * ((decide (128 ≤ b1)).toNat + 2 * ((decide (128 ≤ b2)).toNat + 2 * ((decide (128 ≤ b3)).toNat + 2 * ((decide (128 ≤ b4)).toNat + 2 * ((decide (128 ≤ b5)).toNat + 2 * ((decide (128 ≤ b6)).toNat + 2 * (decide (128 ≤ b7)).toNat)))))) := by simp [setOf]
  rw [hs]
  have hm := magic (decide (128 ≤ b0)) (decide (128 ≤ b1)) (decide (128 ≤ b2)) (decide (128 ≤ b3)) (decide (128 ≤ b4)) (decide (128 ≤ b5)) (decide (128 ≤ b6)) (decide (128 ≤ b7))
  generalize decide (128 ≤ b0) = c0 at *
  generalize decide (128 ≤ b1) = c1 at *
  generalize decide (128 ≤ b2) = c2 at *
  generalize decide (128 ≤ b3) = c3 at *
  generalize decide (128 ≤ b4) = c4 at *
  generalize decide (128 ≤ b5) = c5 at *
  generalize decide (128 ≤ b6) = c6 at *
  generalize decide (128 ≤ b7) = c7 at *
  have e : wd [128 * c0.toNat, 128 * c1.toNat, 128 * c2.toNat, 128 * c3.toNat, 128 * c4.toNat, 128 * c5.toNat, 128 * c6.toNat, 128 * c7.toNat] / 128 = wd [c0.toNat, c1.toNat, c2.toNat, c3.toNat, c4.toNat, c5.toNat, c6.toNat, c7.toNat] := by
    simp only [wd]; omega
  rw [e, hm]

/-- The bytes that are nought, by their highest bits. -/
def zerosN (x : Nat) : Nat := 18446744073709551615 ^^^ ((((x &&& 9187201950435737471) + 9187201950435737471) ||| x) ||| 9187201950435737471)
def zb (b : Nat) : Nat := 255 ^^^ ((((b &&& 127) + 127) ||| b) ||| 127)
theorem zb_all : ∀ b : Fin 256, zb b.val = (if b.val = 0 then 128 else 0) ∧ (b.val &&& 127) + 127 < 256 ∧ ((((b.val &&& 127) + 127) ||| b.val) ||| 127) < 256 ∧ (((b.val &&& 127) + 127) ||| b.val) < 256 ∧ b.val &&& 127 < 256 := by decide +kernel
theorem add_wd : ∀ (l m : List Nat), l.length = m.length → wd l + wd m = wd (List.zipWith (· + ·) l m)
  | [], [], _ => rfl
  | a :: l, b :: m, h => by
    simp only [wd, List.zipWith_cons_cons]
    rw [← add_wd l m (by simpa using h)]; omega
theorem zeros_wd {l : List Nat} (h : B8 l) : zerosN (wd l) = wd (l.map zb) := by
  have hh := h
  obtain ⟨b0, b1, b2, b3, b4, b5, b6, b7, rfl, h0, h1, h2, h3, h4, h5, h6, h7⟩ := h.out
  have z0 := zb_all ⟨b0, h0⟩
  have z1 := zb_all ⟨b1, h1⟩
  have z2 := zb_all ⟨b2, h2⟩
  have z3 := zb_all ⟨b3, h3⟩
  have z4 := zb_all ⟨b4, h4⟩
  have z5 := zb_all ⟨b5, h5⟩
  have z6 := zb_all ⟨b6, h6⟩
  have z7 := zb_all ⟨b7, h7⟩
  simp only at z0 z1 z2 z3 z4 z5 z6 z7
  unfold zerosN
  rw [show (9187201950435737471 : Nat) = wd [127, 127, 127, 127, 127, 127, 127, 127] from rfl, show (18446744073709551615 : Nat) = wd [255, 255, 255, 255, 255, 255, 255, 255] from rfl]
  rw [and_wd [b0, b1, b2, b3, b4, b5, b6, b7] [127, 127, 127, 127, 127, 127, 127, 127] rfl hh.2 (by simp)]
  simp only [List.zipWith_cons_cons, List.zipWith_nil_right]
  rw [add_wd [b0 &&& 127, b1 &&& 127, b2 &&& 127, b3 &&& 127, b4 &&& 127, b5 &&& 127, b6 &&& 127, b7 &&& 127] [127, 127, 127, 127, 127, 127, 127, 127] rfl]
  simp only [List.zipWith_cons_cons, List.zipWith_nil_right]
  rw [or_wd [(b0 &&& 127) + 127, (b1 &&& 127) + 127, (b2 &&& 127) + 127, (b3 &&& 127) + 127, (b4 &&& 127) + 127, (b5 &&& 127) + 127, (b6 &&& 127) + 127, (b7 &&& 127) + 127] [b0, b1, b2, b3, b4, b5, b6, b7] rfl (by simp [z0, z1, z2, z3, z4, z5, z6, z7]) hh.2]
  simp only [List.zipWith_cons_cons, List.zipWith_nil_right]
  rw [or_wd [((b0 &&& 127) + 127) ||| b0, ((b1 &&& 127) + 127) ||| b1, ((b2 &&& 127) + 127) ||| b2, ((b3 &&& 127) + 127) ||| b3, ((b4 &&& 127) + 127) ||| b4, ((b5 &&& 127) + 127) ||| b5, ((b6 &&& 127) + 127) ||| b6, ((b7 &&& 127) + 127) ||| b7] [127, 127, 127, 127, 127, 127, 127, 127] rfl (by simp [z0, z1, z2, z3, z4, z5, z6, z7]) (by simp)]
  simp only [List.zipWith_cons_cons, List.zipWith_nil_right]
  rw [xor_wd [255, 255, 255, 255, 255, 255, 255, 255] [((b0 &&& 127) + 127 ||| b0) ||| 127, ((b1 &&& 127) + 127 ||| b1) ||| 127, ((b2 &&& 127) + 127 ||| b2) ||| 127, ((b3 &&& 127) + 127 ||| b3) ||| 127, ((b4 &&& 127) + 127 ||| b4) ||| 127, ((b5 &&& 127) + 127 ||| b5) ||| 127, ((b6 &&& 127) + 127 ||| b6) ||| 127, ((b7 &&& 127) + 127 ||| b7) ||| 127] rfl (by simp) (by simp [z0, z1, z2, z3, z4, z5, z6, z7])]
  rfl
theorem zb_lt {b : Nat} (h : b < 256) : zb b < 256 := by
  rw [(zb_all ⟨b, h⟩).1]; split <;> omega
theorem zb_high {b : Nat} (h : b < 256) : decide (128 ≤ zb b) = decide (b = 0) := by
  have := (zb_all ⟨b, h⟩).1
  simp only at this
  rw [this]; by_cases hb : b = 0 <;> simp [hb]
theorem setOf_map (p : Nat → Bool) (f : Nat → Nat) : ∀ l, setOf p (l.map f) = setOf (fun b => p (f b)) l
  | [] => rfl
  | b :: l => by simp only [setOf, List.map_cons, setOf_map p f l]
def matchN (x h : Nat) : Nat := gatherN (zerosN (x ^^^ (72340172838076673 * h)))
theorem xor_zero {a b : Nat} : a ^^^ b = 0 ↔ a = b := by
  constructor
  · intro h
    apply Nat.eq_of_testBit_eq
    intro j
    have := congrArg (fun n => Nat.testBit n j) h
    simpa [Nat.testBit_xor] using this
  · rintro rfl; exact Nat.xor_self _
theorem match_wd {l : List Nat} (hl : B8 l) {h : Nat} (hh : h < 256) : matchN (wd l) h = setOf (fun b => b == h) l := by
  have e : 72340172838076673 * h = wd [h, h, h, h, h, h, h, h] := by simp [wd]; omega
  have hx : B8 (List.zipWith (· ^^^ ·) l [h, h, h, h, h, h, h, h]) := by
    obtain ⟨b0, b1, b2, b3, b4, b5, b6, b7, rfl, h0, h1, h2, h3, h4, h5, h6, h7⟩ := hl.out
    refine ⟨rfl, ?_⟩
    have hb : ∀ {a : Nat}, a < 256 → a ^^^ h < 256 := fun {a} ha => Nat.xor_lt_two_pow (n := 8) (by simpa using ha) (by simpa using hh)
    simp [hb h0, hb h1, hb h2, hb h3, hb h4, hb h5, hb h6, hb h7]
  have hz : B8 ((List.zipWith (· ^^^ ·) l [h, h, h, h, h, h, h, h]).map zb) := by
    refine ⟨by simpa using hx.1, fun b hb => ?_⟩
    obtain ⟨a, ha, rfl⟩ := List.mem_map.1 hb
    exact zb_lt (hx.2 a ha)
  unfold matchN
  rw [e, xor_wd l _ (by rw [hl.1]; rfl) hl.2 (by simp [hh]), zeros_wd hx, gather_wd hz, setOf_map]
  rw [setOf_congr (q := fun b => decide (b = 0)) (fun b hb => zb_high (hx.2 b hb))]
  obtain ⟨b0, b1, b2, b3, b4, b5, b6, b7, rfl, h0, h1, h2, h3, h4, h5, h6, h7⟩ := hl.out
  have hq : ∀ a : Nat, decide (a ^^^ h = 0) = (a == h) := fun a => by
    rw [Bool.eq_iff_iff]; simp [xor_zero]
  simp only [List.zipWith_cons_cons, List.zipWith_nil_right, setOf, hq]

/-! ### A slot's byte, read and written -/
theorem get_wd {l : List Nat} (h : B8 l) (k : Nat) (hk : k < 8) : wd l / 2 ^ (8 * k) % 256 = l.getD k 0 := by
  obtain ⟨b0, b1, b2, b3, b4, b5, b6, b7, rfl, h⟩ := h.out
  match k, hk with
  | 0, _ | 1, _ | 2, _ | 3, _ | 4, _ | 5, _ | 6, _ | 7, _ => simp [wd]; omega
theorem and255 {b : Nat} (h : b < 256) : b &&& 255 = b := by
  have := Nat.and_two_pow_sub_one_eq_mod b 8
  rw [show (255 : Nat) = 2 ^ 8 - 1 from rfl, this]; omega
def andNotN (a b : Nat) : Nat := a &&& (18446744073709551615 - b)
theorem set_wd {l : List Nat} (h : B8 l) (k : Nat) (hk : k < 8) {c : Nat} (hc : c < 256) : (andNotN (wd l) (255 * 2 ^ (8 * k))) ||| (c * 2 ^ (8 * k)) = wd (l.set k c) := by
  have hl := h.2
  obtain ⟨b0, b1, b2, b3, b4, b5, b6, b7, rfl, h0, h1, h2, h3, h4, h5, h6, h7⟩ := h.out
  unfold andNotN
  match k, hk with
  | 0, _ =>
    rw [show (18446744073709551615 - 255 * 2 ^ (8 * 0)) = wd [0, 255, 255, 255, 255, 255, 255, 255] from rfl, show c * 2 ^ (8 * 0) = wd [c, 0, 0, 0, 0, 0, 0, 0] by simp [wd]; try omega]
    rw [and_wd [b0, b1, b2, b3, b4, b5, b6, b7] [0, 255, 255, 255, 255, 255, 255, 255] rfl hl (by simp)]
    simp only [List.zipWith_cons_cons, List.zipWith_nil_right, and255 h0, and255 h1, and255 h2, and255 h3, and255 h4, and255 h5, and255 h6, and255 h7, Nat.and_zero]
    rw [or_wd [0, b1, b2, b3, b4, b5, b6, b7] [c, 0, 0, 0, 0, 0, 0, 0] rfl (by simp [h0, h1, h2, h3, h4, h5, h6, h7]) (by simp [hc])]
    simp
  | 1, _ =>
    rw [show (18446744073709551615 - 255 * 2 ^ (8 * 1)) = wd [255, 0, 255, 255, 255, 255, 255, 255] from rfl, show c * 2 ^ (8 * 1) = wd [0, c, 0, 0, 0, 0, 0, 0] by simp [wd]; try omega]
    rw [and_wd [b0, b1, b2, b3, b4, b5, b6, b7] [255, 0, 255, 255, 255, 255, 255, 255] rfl hl (by simp)]
    simp only [List.zipWith_cons_cons, List.zipWith_nil_right, and255 h0, and255 h1, and255 h2, and255 h3, and255 h4, and255 h5, and255 h6, and255 h7, Nat.and_zero]
    rw [or_wd [b0, 0, b2, b3, b4, b5, b6, b7] [0, c, 0, 0, 0, 0, 0, 0] rfl (by simp [h0, h1, h2, h3, h4, h5, h6, h7]) (by simp [hc])]
    simp
  | 2, _ =>
    rw [show (18446744073709551615 - 255 * 2 ^ (8 * 2)) = wd [255, 255, 0, 255, 255, 255, 255, 255] from rfl, show c * 2 ^ (8 * 2) = wd [0, 0, c, 0, 0, 0, 0, 0] by simp [wd]; try omega]
    rw [and_wd [b0, b1, b2, b3, b4, b5, b6, b7] [255, 255, 0, 255, 255, 255, 255, 255] rfl hl (by simp)]
    simp only [List.zipWith_cons_cons, List.zipWith_nil_right, and255 h0, and255 h1, and255 h2, and255 h3, and255 h4, and255 h5, and255 h6, and255 h7, Nat.and_zero]
    rw [or_wd [b0, b1, 0, b3, b4, b5, b6, b7] [0, 0, c, 0, 0, 0, 0, 0] rfl (by simp [h0, h1, h2, h3, h4, h5, h6, h7]) (by simp [hc])]
    simp
  | 3, _ =>
    rw [show (18446744073709551615 - 255 * 2 ^ (8 * 3)) = wd [255, 255, 255, 0, 255, 255, 255, 255] from rfl, show c * 2 ^ (8 * 3) = wd [0, 0, 0, c, 0, 0, 0, 0] by simp [wd]; try omega]
    rw [and_wd [b0, b1, b2, b3, b4, b5, b6, b7] [255, 255, 255, 0, 255, 255, 255, 255] rfl hl (by simp)]
    simp only [List.zipWith_cons_cons, List.zipWith_nil_right, and255 h0, and255 h1, and255 h2, and255 h3, and255 h4, and255 h5, and255 h6, and255 h7, Nat.and_zero]
    rw [or_wd [b0, b1, b2, 0, b4, b5, b6, b7] [0, 0, 0, c, 0, 0, 0, 0] rfl (by simp [h0, h1, h2, h3, h4, h5, h6, h7]) (by simp [hc])]
    simp
  | 4, _ =>
    rw [show (18446744073709551615 - 255 * 2 ^ (8 * 4)) = wd [255, 255, 255, 255, 0, 255, 255, 255] from rfl, show c * 2 ^ (8 * 4) = wd [0, 0, 0, 0, c, 0, 0, 0] by simp [wd]; try omega]
    rw [and_wd [b0, b1, b2, b3, b4, b5, b6, b7] [255, 255, 255, 255, 0, 255, 255, 255] rfl hl (by simp)]
    simp only [List.zipWith_cons_cons, List.zipWith_nil_right, and255 h0, and255 h1, and255 h2, and255 h3, and255 h4, and255 h5, and255 h6, and255 h7, Nat.and_zero]
    rw [or_wd [b0, b1, b2, b3, 0, b5, b6, b7] [0, 0, 0, 0, c, 0, 0, 0] rfl (by simp [h0, h1, h2, h3, h4, h5, h6, h7]) (by simp [hc])]
    simp
  | 5, _ =>
    rw [show (18446744073709551615 - 255 * 2 ^ (8 * 5)) = wd [255, 255, 255, 255, 255, 0, 255, 255] from rfl, show c * 2 ^ (8 * 5) = wd [0, 0, 0, 0, 0, c, 0, 0] by simp [wd]; try omega]
    rw [and_wd [b0, b1, b2, b3, b4, b5, b6, b7] [255, 255, 255, 255, 255, 0, 255, 255] rfl hl (by simp)]
    simp only [List.zipWith_cons_cons, List.zipWith_nil_right, and255 h0, and255 h1, and255 h2, and255 h3, and255 h4, and255 h5, and255 h6, and255 h7, Nat.and_zero]
    rw [or_wd [b0, b1, b2, b3, b4, 0, b6, b7] [0, 0, 0, 0, 0, c, 0, 0] rfl (by simp [h0, h1, h2, h3, h4, h5, h6, h7]) (by simp [hc])]
    simp
  | 6, _ =>
    rw [show (18446744073709551615 - 255 * 2 ^ (8 * 6)) = wd [255, 255, 255, 255, 255, 255, 0, 255] from rfl, show c * 2 ^ (8 * 6) = wd [0, 0, 0, 0, 0, 0, c, 0] by simp [wd]; try omega]
    rw [and_wd [b0, b1, b2, b3, b4, b5, b6, b7] [255, 255, 255, 255, 255, 255, 0, 255] rfl hl (by simp)]
    simp only [List.zipWith_cons_cons, List.zipWith_nil_right, and255 h0, and255 h1, and255 h2, and255 h3, and255 h4, and255 h5, and255 h6, and255 h7, Nat.and_zero]
    rw [or_wd [b0, b1, b2, b3, b4, b5, 0, b7] [0, 0, 0, 0, 0, 0, c, 0] rfl (by simp [h0, h1, h2, h3, h4, h5, h6, h7]) (by simp [hc])]
    simp
  | 7, _ =>
    rw [show (18446744073709551615 - 255 * 2 ^ (8 * 7)) = wd [255, 255, 255, 255, 255, 255, 255, 0] from rfl, show c * 2 ^ (8 * 7) = wd [0, 0, 0, 0, 0, 0, 0, c] by simp [wd]; try omega]
    rw [and_wd [b0, b1, b2, b3, b4, b5, b6, b7] [255, 255, 255, 255, 255, 255, 255, 0] rfl hl (by simp)]
    simp only [List.zipWith_cons_cons, List.zipWith_nil_right, and255 h0, and255 h1, and255 h2, and255 h3, and255 h4, and255 h5, and255 h6, and255 h7, Nat.and_zero]
    rw [or_wd [b0, b1, b2, b3, b4, b5, b6, 0] [0, 0, 0, 0, 0, 0, 0, c] rfl (by simp [h0, h1, h2, h3, h4, h5, h6, h7]) (by simp [hc])]
    simp
theorem B8.set {l : List Nat} (h : B8 l) (k : Nat) {c : Nat} (hc : c < 256) : B8 (l.set k c) :=
  ⟨by simpa using h.1, fun b hb => by rcases List.mem_or_eq_of_mem_set hb with h1 | rfl; exact h.2 b h1; exact hc⟩

/-! ### Those that are full -/
theorem not_byte : ∀ b : Fin 256, (255 ^^^ b.val) < 256 ∧ decide (128 ≤ 255 ^^^ b.val) = decide (b.val < 128) := by decide +kernel
theorem full_wd {l : List Nat} (h : B8 l) : gatherN (18446744073709551615 ^^^ wd l) = setOf (fun b => decide (b < 128)) l := by
  have hl := h.2
  rw [show (18446744073709551615 : Nat) = wd [255, 255, 255, 255, 255, 255, 255, 255] from rfl, xor_wd _ l (by rw [h.1]; rfl) (by simp) hl]
  have e : List.zipWith (· ^^^ ·) [255, 255, 255, 255, 255, 255, 255, 255] l = l.map (255 ^^^ ·) := by
    obtain ⟨b0, b1, b2, b3, b4, b5, b6, b7, rfl, _⟩ := h.out
    rfl
  rw [e, gather_wd ⟨by simpa using h.1, fun b hb => by obtain ⟨a, ha, rfl⟩ := List.mem_map.1 hb; exact (not_byte ⟨a, hl a ha⟩).1⟩, setOf_map]
  exact setOf_congr (fun b hb => (not_byte ⟨b, hl b hb⟩).2)

/-! ### Sets of slots, built up slot by slot -/
theorem setOf_take_succ (p : Nat → Bool) : ∀ (l : List Nat) (k : Nat), k < l.length → setOf p (l.take (k + 1)) = setOf p (l.take k) + (p (l.getD k 0)).toNat * 2 ^ k
  | b :: l, 0, _ => by simp [setOf]
  | b :: l, k + 1, h => by
    have := setOf_take_succ p l k (by simpa using h)
    simp only [List.take_succ_cons, setOf, this, List.getD_cons_succ, Nat.pow_succ]
    rw [Nat.mul_add]; have e : (p (l.getD k 0)).toNat * (2 ^ k * 2) = 2 * ((p (l.getD k 0)).toNat * 2 ^ k) := by rw [← Nat.mul_assoc, Nat.mul_comm]
    omega
theorem or_bit {a k : Nat} (h : a < 2 ^ k) : a ||| 2 ^ k = a + 2 ^ k := by
  have := Nat.two_pow_add_eq_or_of_lt h 1
  rw [Nat.mul_one] at this
  rw [Nat.or_comm, ← this, Nat.add_comm]
theorem setOf_or (p q : Nat → Bool) (hpq : ∀ b, p b = true → q b = false) : ∀ l, setOf p l ||| setOf q l = setOf (fun b => p b || q b) l
  | [] => by simp [setOf]
  | b :: l => by
    simp only [setOf, ← setOf_or p q hpq l]
    have e : ∀ (x y : Bool) (a c : Nat), (x.toNat + 2 * a) ||| (y.toNat + 2 * c) = (x || y).toNat + 2 * (a ||| c) := by
      intro x y a c
      apply Nat.eq_of_testBit_eq
      intro j
      cases j with
      | zero => cases x <;> cases y <;> simp [Nat.testBit_or, Nat.testBit_zero] <;> omega
      | succ j =>
        have h1 : ∀ (z : Bool) (d : Nat), (z.toNat + 2 * d) / 2 = d := fun z d => by cases z <;> simp <;> omega
        rw [Nat.testBit_or, Nat.testBit_succ, Nat.testBit_succ, Nat.testBit_succ, h1, h1, h1, Nat.testBit_or]
    exact e _ _ _ _
end Go.Proofs.YtcooapflofiolaaDoor
