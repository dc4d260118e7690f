/- A majority of voters that may be told more than once, in any order: sorted and compacted, or by first occurrences: the same count. -/
import Derived.Lib.SlicesCompact
import Derived.Lib.RowBridge
namespace Go.Proofs.Ytbjhpifllgoffaa
open Go
set_option linter.unusedVariables false
abbrev srt (l : List Int) : List Int := l.mergeSort fun x y => decide (x ≤ y)
theorem srt_len (l : List Int) : (srt l).length = l.length := List.length_mergeSort _
theorem srt_mem (l : List Int) (x : Int) : x ∈ srt l ↔ x ∈ l := List.mem_mergeSort
theorem srt_le (l : List Int) : (srt l).Pairwise (· ≤ ·) := by
  have := List.pairwise_mergeSort (le := fun x y : Int => decide (x ≤ y)) (fun a b c h1 h2 => by simp at *; omega) (fun a b => by simp; omega) l
  exact this.imp (fun h => by simpa using h)
theorem upTo_sorted (l : List Int) (hs : l.Pairwise (· ≤ ·)) : ∀ m, m ≤ l.length → (Lib.compactUpTo l.toArray m).Pairwise (· < ·) ∧ (∀ x, x ∈ Lib.compactUpTo l.toArray m ↔ ∃ j, j < m ∧ l.toArray[j]! = x)
  | 0, _ => ⟨List.Pairwise.nil, fun x => ⟨fun h => by simp [Lib.compactUpTo] at h, fun ⟨j, h, _⟩ => by omega⟩⟩
  | m + 1, hm => by
    obtain ⟨h1, h2⟩ := upTo_sorted l hs m (by omega)
    have get : ∀ j, j < l.length → ∃ h : j < l.length, l.toArray[j]! = l[j] := fun j h => ⟨h, by rw [getElem!_pos l.toArray j (by simpa using h)]; simp⟩
    have le : ∀ i j, i ≤ j → j < l.length → l.toArray[i]! ≤ l.toArray[j]! := fun i j hij hj => by
      obtain ⟨ha, ea⟩ := get i (by omega)
      obtain ⟨hb, eb⟩ := get j hj
      rw [ea, eb]
      rcases Nat.lt_or_ge i j with h | h
      · exact List.pairwise_iff_getElem.1 hs i j ha hb h
      · obtain rfl : i = j := by omega
        exact Int.le_refl _
    rw [Lib.compactUpTo_succ]
    by_cases hk : Lib.keeps l.toArray m = true
    · rw [if_pos hk]
      unfold Lib.keeps at hk
      rw [decide_eq_true_iff] at hk
      refine ⟨?_, fun x => ?_⟩
      · rw [List.pairwise_append]
        refine ⟨h1, List.pairwise_singleton _ _, fun a ha b hb => ?_⟩
        rw [List.mem_singleton] at hb
        subst hb
        obtain ⟨j, hj, rfl⟩ := (h2 a).1 ha
        rcases hk with h | h
        · omega
        · have e1 := le j (m - 1) (by omega) (by omega)
          have e2 := le (m - 1) m (by omega) (by omega)
          omega
      · rw [List.mem_append, h2, List.mem_singleton]
        constructor
        · rintro (⟨j, hj, e⟩ | e)
          · exact ⟨j, by omega, e⟩
          · exact ⟨m, by omega, e.symm⟩
        · rintro ⟨j, hj, e⟩
          rcases Nat.lt_succ_iff_lt_or_eq.1 hj with h | h
          · exact .inl ⟨j, h, e⟩
          · subst h; exact .inr e.symm
    · rw [if_neg hk, List.append_nil]
      unfold Lib.keeps at hk
      rw [decide_eq_true_iff] at hk
      have h0 : m ≠ 0 := fun e => hk (.inl e)
      have he : l.toArray[m]! = l.toArray[m - 1]! := Classical.not_not.1 fun e => hk (.inr e)
      refine ⟨h1, fun x => ?_⟩
      rw [h2]
      constructor
      · rintro ⟨j, hj, e⟩
        exact ⟨j, by omega, e⟩
      · rintro ⟨j, hj, e⟩
        rcases Nat.lt_succ_iff_lt_or_eq.1 hj with h | h
        · exact ⟨j, h, e⟩
        · subst h; exact ⟨j - 1, by omega, he ▸ e⟩
/-- The distinct voters, rising. -/
def dst (V : List Int) : List Int := Lib.compact (srt V)
theorem dst_rises (V : List Int) : (dst V).Pairwise (· < ·) := (upTo_sorted (srt V) (srt_le V) _ (Nat.le_refl _)).1
theorem dst_mem (V : List Int) (x : Int) : x ∈ dst V ↔ x ∈ V := by
  unfold dst Lib.compact
  rw [(upTo_sorted (srt V) (srt_le V) _ (Nat.le_refl _)).2 x, ← srt_mem V x]
  constructor
  · rintro ⟨j, hj, e⟩
    rw [getElem!_pos (srt V).toArray j (by simpa using hj)] at e
    rw [← e]; simp
  · intro h
    obtain ⟨j, hj, e⟩ := List.getElem_of_mem h
    exact ⟨j, hj, by rw [getElem!_pos (srt V).toArray j (by simpa using hj)]; simpa using e⟩
theorem dst_nodup (V : List Int) : (dst V).Nodup := (dst_rises V).imp fun h e => by omega
theorem dst_len (V : List Int) : (dst V).length ≤ V.length := by
  have := Lib.compact_length_le (srt V)
  rwa [srt_len] at this
/-- First occurrences, up to a place. -/
def fst (V : List Int) : Nat → List Int
  | 0 => []
  | k + 1 => fst V k ++ (if V.getD k 0 ∈ V.take k then [] else [V.getD k 0])
theorem fst_mem (V : List Int) (x : Int) : ∀ k, k ≤ V.length → (x ∈ fst V k ↔ x ∈ V.take k)
  | 0, _ => by simp [fst]
  | k + 1, h => by
    have hk : k < V.length := by omega
    have ht : V.take (k + 1) = V.take k ++ [V.getD k 0] := by
      rw [List.take_succ_eq_append_getElem hk, List.getD_eq_getElem?_getD, List.getElem?_eq_getElem hk]; rfl
    rw [fst, List.mem_append, fst_mem V x k (by omega), ht, List.mem_append]
    by_cases hm : V.getD k 0 ∈ V.take k
    · rw [if_pos hm]
      constructor
      · rintro (h1 | h1)
        · exact .inl h1
        · cases h1
      · rintro (h1 | h1)
        · exact .inl h1
        · rw [List.mem_singleton] at h1; subst h1; exact .inl hm
    · rw [if_neg hm]
theorem fst_nodup (V : List Int) : ∀ k, k ≤ V.length → (fst V k).Nodup
  | 0, _ => List.nodup_nil
  | k + 1, h => by
    rw [fst, List.nodup_append]
    refine ⟨fst_nodup V k (by omega), by split <;> simp, fun a ha b hb e => ?_⟩
    subst e
    by_cases hm : V.getD k 0 ∈ V.take k
    · rw [if_pos hm] at hb; cases hb
    · rw [if_neg hm, List.mem_singleton] at hb
      subst hb
      exact hm ((fst_mem V _ k (by omega)).1 ha)
theorem fst_dst (V : List Int) : (fst V V.length).Perm (dst V) :=
  (List.perm_ext_iff_of_nodup (fst_nodup V _ (Nat.le_refl _)) (dst_nodup V)).2 fun x => by
    rw [fst_mem V x _ (Nat.le_refl _), List.take_length, dst_mem]
/-- Are more than half of the distinct voters there? -/
def majG (V : List Int) (p : Int → Bool) : Bool := decide ((dst V).length / 2 < (dst V).countP p)
theorem majG_fst (V : List Int) (p : Int → Bool) : majG V p = decide ((fst V V.length).length / 2 < (fst V V.length).countP p) := by
  unfold majG
  rw [(fst_dst V).length_eq, (fst_dst V).countP_eq p]
theorem majG_congr {V : List Int} {p q : Int → Bool} (h : ∀ x, x ∈ V → p x = q x) : majG V p = majG V q := by
  unfold majG
  rw [List.countP_congr fun x hx => by rw [h x ((dst_mem V x).1 hx)]]
theorem majG_mono {V : List Int} {p q : Int → Bool} (h : ∀ x, x ∈ V → p x = true → q x = true) (hp : majG V p = true) : majG V q = true := by
  unfold majG at *
  rw [decide_eq_true_iff] at *
  have := List.countP_mono_left (l := dst V) (p := p) (q := q) fun x hx hpx => h x ((dst_mem V x).1 hx) hpx
  omega
theorem majG_all {V : List Int} {p : Int → Bool} (h0 : V ≠ []) (h : ∀ x, x ∈ V → p x = true) : majG V p = true := by
  unfold majG
  rw [decide_eq_true_iff]
  have h1 : (dst V).countP p = (dst V).length := List.countP_eq_length.2 fun x hx => h x ((dst_mem V x).1 hx)
  have h2 : 0 < (dst V).length := by
    obtain ⟨x, hx⟩ := List.exists_mem_of_ne_nil V h0
    exact List.length_pos_of_mem ((dst_mem V x).2 hx)
  omega
end Go.Proofs.Ytbjhpifllgoffaa
