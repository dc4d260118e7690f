/- lives of chapter 5: nine Puts of integers. -/
import Derived.Test.YtcooapflofiolaaDoorMILive
import Derived.Laws.BytesString
namespace Go.Proofs.YtcooapflofiolaaDoor
/-- What the examples' map is like behind 'i' Puts. -/
structure Lv (H : ByteArray → Nat) (m : Mp Int) (i : Nat) : Prop where
  n : m.n = i
  tb : m.tb = 0
  g : m.ws.length = if i ≤ 7 then 1 else 2
  h1 : ∀ k v, Has m k v → ∃ j, j < i ∧ k = ⟨#[UInt8.ofNat (97 + j)]⟩
  h2 : ∀ j, j < i → Has m ⟨#[UInt8.ofNat (97 + j)]⟩ (j : Nat)
theorem ltr_inj : ∀ i j : Fin 9, (⟨#[UInt8.ofNat (97 + i.val)]⟩ : ByteArray) = ⟨#[UInt8.ofNat (97 + j.val)]⟩ → i = j := by decide +kernel
section
variable {H : ByteArray → Nat} {m : Mp Int} {i : Nat}
theorem Lv.find (h : Lv H m i) (I : MInv H m) (hi : i < 8) : find H m ⟨#[UInt8.ofNat (97 + i)]⟩ = none := by
  cases hf : Go.Proofs.YtcooapflofiolaaDoor.find H m ⟨#[UInt8.ofNat (97 + i)]⟩ with
  | none => rfl
  | some x =>
    obtain ⟨v, hv⟩ := (find_has I).2 (by rw [hf]; simp)
    obtain ⟨j, hj, e⟩ := h.h1 _ _ hv
    have := ltr_inj ⟨i, by omega⟩ ⟨j, by omega⟩ e
    injection this with this
    omega
theorem Lv.put (h : Lv H m i) (I : MInv H m) (hi : i < 8) : Lv H (put H m ⟨#[UInt8.ofNat (97 + i)]⟩ (i : Nat)) (i + 1) := by
  have hn := h.n
  obtain ⟨a, b, c, d, e, _⟩ := put_none I (v := ((i : Nat) : Int)) (h.find I hi) (by omega)
  obtain ⟨_, _, r3, _, _, r⟩ := room_inv I (by omega)
  obtain ⟨r1, r2⟩ := r h.tb
  have hg := h.g
  have hld := I.ld
  have rn : (room H m).n = m.n := (room_inv I (by omega)).2.1
  refine ⟨by omega, by omega, ?_, fun k v hk => ?_, fun j hj => ?_⟩
  · rw [c]
    rcases r2 with r2 | ⟨r2, r4⟩
    · rw [r2] at r3 ⊢
      rw [hg] at r3 ⊢
      by_cases h7 : i ≤ 7
      · rw [if_pos h7] at r3 ⊢
        rw [if_pos (by omega)]
      · omega
    · rw [hg] at r4 r2
      rw [r2]
      by_cases h7 : i ≤ 7
      · rw [if_pos h7] at r4 ⊢
        rw [if_neg (by omega)]
      · omega
  · rw [e] at hk
    split at hk
    · exact ⟨i, by omega, ‹_›⟩
    · obtain ⟨j, hj, e⟩ := h.h1 _ _ hk
      exact ⟨j, by omega, e⟩
  · rw [e]
    by_cases hji : j = i
    · rw [if_pos (by rw [hji]), hji]
    · rw [if_neg (fun e => hji (by have := ltr_inj ⟨j, by omega⟩ ⟨i, by omega⟩ e; injection this))]
      exact h.h2 j (by omega)
theorem Lv.zero (H : ByteArray → Nat) : Lv H (empty 1) 0 := ⟨rfl, rfl, rfl, fun k v h => absurd h (has_empty_not _ _ _), fun j hj => by omega⟩
/-- The ninth Put: of a key that is there. -/
theorem lv_last (h : Lv H m 8) (I : MInv H m) : putB H m ⟨#[99]⟩ = true ∧ putE H m ⟨#[99]⟩ = 0 ∧ (put H m ⟨#[99]⟩ 9).n = 8 ∧ (put H m ⟨#[99]⟩ 9).ws.length = 2 ∧ ∃ x, find H (put H m ⟨#[99]⟩ 9) ⟨#[99]⟩ = some x ∧ ((put H m ⟨#[99]⟩ 9).s x).2 = 9 := by
  have h2 := h.h2 2 (by omega)
  have hf := (find_has I).1 ⟨_, h2⟩
  obtain ⟨x, hx⟩ := Option.ne_none_iff_exists'.1 hf
  have hx : find H m ⟨#[99]⟩ = some x := hx
  obtain ⟨a, b, c, d, e⟩ := put_some I (v := 9) hx
  refine ⟨by simp [putB, hx], by simp [putE, hx], by rw [b]; exact h.n, by rw [c]; exact h.g, ?_⟩
  have hu : Has (Go.Proofs.YtcooapflofiolaaDoor.put H m ⟨#[99]⟩ 9) ⟨#[99]⟩ 9 := (e _ _).2 (by rw [if_pos rfl])
  obtain ⟨y, hy⟩ := Option.ne_none_iff_exists'.1 ((find_has a).1 ⟨_, hu⟩)
  exact ⟨y, hy, ((find_val a hy).1 hu).symm⟩
end
/-- The text of one byte, as the program makes it. -/
theorem one_text (W : World) (b c : Nat) (x : Int) (h : W.cell? ⟨b, 0, none⟩ = some (.int .u8 x)) :
    (convert 102 9 (.slice (some ⟨b, 0, none⟩) 1 c)).run Tryd.prog W = .ok (.string ⟨#[UInt8.ofNat x.toNat]⟩) W := by
  rw [run_convert_bytes_string W 102 9 5 _ _ _ (by kernel_rfl) (by kernel_rfl) (by kernel_rfl)]
  refine run_bytesToString W _ 1 c [x] (run_loadCells_list (P := Tryd.prog) (w := W) ⟨b, 0, none⟩ [.int .u8 x] fun j v hj => ?_)
  match j with
  | 0 => simp at hj; subst hj; exact h
  | j + 1 => simp at hj
end Go.Proofs.YtcooapflofiolaaDoor
