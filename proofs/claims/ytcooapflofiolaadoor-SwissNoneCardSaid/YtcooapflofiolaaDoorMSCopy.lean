/- Clone, Controls, Keys and Copy, over maps of texts. -/
import Derived.Test.YtcooapflofiolaaDoorMSNew
namespace Go.Proofs.YtcooapflofiolaaDoor.MS
open Go Go.RowKit Go.Shelf
set_option linter.unusedVariables false
set_option linter.unusedSimpArgs false
set_option maxRecDepth 100000
set_option maxHeartbeats 4000000
theorem cloneW_any (g : Nat) (n c : Nat) (xs : List Value) (hl : xs.length = n * 1) (w : World) (hx : ∀ j u, xs[j]? = some u → w.cell? (Addr.add ⟨g, 0, none⟩ j) = some u) (ho : ∀ u ∈ xs, u.oneCell' = true) (hn : n ≤ 1000000) :
    Calls Tryd.prog 79 #[.slice (some ⟨g, 0, none⟩) n c] w fun e w' => ∃ v, e = .returned v ∧ w'.ownsRow w.heap.size 22 1 v n xs ∧ (∃ a k, v = .slice (some ⟨a, 0, none⟩) n k) ∧ Below w.heap.size w w' := by
  have q : ∀ (w : World) (a : Option Addr) (n c n' c' : Nat), (binOp .eql 60 (.slice a n c) (.slice none n' c')).run Tryd.prog w = .ok (.bool a.isNone) w := fun w a n c n' c' => Lib.run_eql_slice_nil w _ _ a n c n' c' Tryd.underlying60
  obtain ⟨i0, hi, hz0, hz1, hz2⟩ := info_parts infoW
  have L1 : Hid (Below w.heap.size w (w.alloc (.cells #[] 22))) := (Below.refl _ w).alloc (Nat.le_refl _) _
  have hown : (w.alloc (.cells #[] 22)).ownsRow w.heap.size 22 1 (.slice (some ⟨w.heap.size, 0, none⟩) 0 0) 0 [] :=
    ⟨rfl, .inr ⟨w.heap.size, 0, #[], rfl, Nat.le_refl _, heap_alloc_new w _, Nat.le_refl _, Nat.zero_le _, rfl, rfl⟩⟩
  obtain ⟨v', w', hr, h2, h3, h4, h5⟩ := run_append_own_at (P := Tryd.prog) (w.alloc (.cells #[] 22)) w.heap.size 60 60 22 i0 _ 1 8 Tryd.underlying60 hi hz0 hz1 hz2 rfl (by decide) _ 0 [] hown ⟨g, 0, none⟩ n c xs hl (fun j u hj => low_cell L1.out (Nat.le_refl _) (hx j u hj)) ho (by simp only [maxLen]; omega) (by omega) L1.out.size
  rw [Nat.zero_add, List.nil_append] at h2
  have hv : ∃ a k, v' = .slice (some ⟨a, 0, none⟩) n k := by
    rcases h2.2 with ⟨rfl, h0⟩ | ⟨a, k, cur, rfl, _⟩
    · exact absurd (h4.1 rfl).1 (by simp)
    · exact ⟨a, k, rfl⟩
  have H1 := Lib.hid h2
  have H2 : Hid (Below w.heap.size w w') := L1.out.grown h3 L1.out.size (fun k ek => by cases ek; exact Nat.le_refl _)
  have H3 := Lib.hid hr
  have H4 := Lib.hid hv
  clear h2 hr h3 h4 h5 hown hv hx ho hl hi hz0 hz1 hz2
  go_enter Tryd.func79, Tryd.ntmps79
  go_wp2_with (at_builtin; refine wpList_runT 60 rfl _ _ rfl _ _ rfl rfl _ _ H3.out ?_)
  go_ret
  exact ⟨_, rfl, H1.out, H4.out, H2.out⟩
theorem cloneS_any (g : Nat) (n c : Nat) (xs : List Value) (hl : xs.length = n * 2) (w : World) (hx : ∀ j u, xs[j]? = some u → w.cell? (Addr.add ⟨g, 0, none⟩ j) = some u) (ho : ∀ u ∈ xs, u.oneCell' = true) (hn : n ≤ 1000000) :
    Calls Tryd.prog 87 #[.slice (some ⟨g, 0, none⟩) n c] w fun e w' => ∃ v, e = .returned v ∧ w'.ownsRow w.heap.size 109 2 v n xs ∧ (∃ a k, v = .slice (some ⟨a, 0, none⟩) n k) ∧ Below w.heap.size w w' := by
  have q : ∀ (w : World) (a : Option Addr) (n c n' c' : Nat), (binOp .eql 104 (.slice a n c) (.slice none n' c')).run Tryd.prog w = .ok (.bool a.isNone) w := fun w a n c n' c' => Lib.run_eql_slice_nil w _ _ a n c n' c' Tryd.underlying104
  obtain ⟨i0, hi, hz0, hz1, hz2⟩ := info_parts infoS
  have L1 : Hid (Below w.heap.size w (w.alloc (.cells #[] 109))) := (Below.refl _ w).alloc (Nat.le_refl _) _
  have hown : (w.alloc (.cells #[] 109)).ownsRow w.heap.size 109 2 (.slice (some ⟨w.heap.size, 0, none⟩) 0 0) 0 [] :=
    ⟨rfl, .inr ⟨w.heap.size, 0, #[], rfl, Nat.le_refl _, heap_alloc_new w _, Nat.le_refl _, Nat.zero_le _, rfl, rfl⟩⟩
  obtain ⟨v', w', hr, h2, h3, h4, h5⟩ := run_append_own_at (P := Tryd.prog) (w.alloc (.cells #[] 109)) w.heap.size 104 104 109 i0 _ 2 _ Tryd.underlying104 hi hz0 hz1 hz2 rfl (by decide) _ 0 [] hown ⟨g, 0, none⟩ n c xs hl (fun j u hj => low_cell L1.out (Nat.le_refl _) (hx j u hj)) ho (by simp only [maxLen]; omega) (by omega) L1.out.size
  rw [Nat.zero_add, List.nil_append] at h2
  have hv : ∃ a k, v' = .slice (some ⟨a, 0, none⟩) n k := by
    rcases h2.2 with ⟨rfl, h0⟩ | ⟨a, k, cur, rfl, _⟩
    · exact absurd (h4.1 rfl).1 (by simp)
    · exact ⟨a, k, rfl⟩
  have H1 := Lib.hid h2
  have H2 : Hid (Below w.heap.size w w') := L1.out.grown h3 L1.out.size (fun k ek => by cases ek; exact Nat.le_refl _)
  have H3 := Lib.hid hr
  have H4 := Lib.hid hv
  clear h2 hr h3 h4 h5 hown hv hx ho hl hi hz0 hz1 hz2
  go_enter Tryd.func87, Tryd.ntmps87
  go_wp2_with (at_builtin; refine wpList_runT 104 rfl _ _ rfl _ _ rfl rfl _ _ H3.out ?_)
  go_ret
  exact ⟨_, rfl, H1.out, H4.out, H2.out⟩
theorem words_cells {w : World} {p : Pl} {k0 k1 : BitVec 64} {m : Mp VT} (h : At w p k0 k1 m) : ∀ j u, (wordsV m)[j]? = some u → w.cell? (Addr.add ⟨p.bw, 0, none⟩ j) = some u := fun j u hj => by
  obtain ⟨h1, rfl⟩ := wordsV_at m hj
  rw [Addr.add_lit, Nat.zero_add]; exact h.wc h1
theorem slots_cells {w : World} {p : Pl} {k0 k1 : BitVec 64} {m : Mp VT} (h : At w p k0 k1 m) (hsl : m.ss.length = 8 * m.ws.length) : ∀ j u, (flatS val m.ss)[j]? = some u → w.cell? (Addr.add ⟨p.bs, 0, none⟩ j) = some u := fun j u hj => by
  obtain ⟨h1, h2⟩ := flatS_get val m.ss hj
  rw [Addr.add_lit, Nat.zero_add]
  rcases h2 with ⟨h3, rfl⟩ | ⟨h3, rfl⟩
  · have := h.sk (i := j / 2) (by omega)
    rwa [show j / 2 * 2 = j by omega] at this
  · have := h.sv (i := j / 2) (by omega)
    rwa [show j / 2 * 2 + 1 = j by omega] at this
theorem words_one (m : Mp VT) : ∀ u ∈ wordsV m, u.oneCell' = true := fun u hu => by
  obtain ⟨x, _, rfl⟩ := List.mem_map.1 hu; rfl
theorem slots_one (l : List (ByteArray × VT)) : ∀ u ∈ flatS val l, u.oneCell' = true := fun u hu => by
  obtain ⟨x, _, h⟩ := List.mem_flatMap.1 hu
  simp at h
  rcases h with rfl | rfl <;> rfl
theorem controls_any (p : Pl) (k0 k1 : BitVec 64) (m : Mp VT) (w : World) (h : At w p k0 k1 m) (I : MInv (hashN k0 k1) m) :
    Calls Tryd.prog 31 #[.pointer (some ⟨p.b, 0, none⟩)] w fun e w' => ∃ v, e = .returned v ∧ w'.ownsRow w.heap.size 22 1 v m.ws.length (wordsV m) ∧ Below w.heap.size w w' := by
  have HM := Lib.hid (made_any p k0 k1 m w h I.len.1)
  have HC := Lib.hid (cloneW_any p.bw m.ws.length p.cw (wordsV m) (by rw [wordsV_len]; omega) w (words_cells h) (words_one m) (by have := I.len; omega))
  have c2 := h.c2
  clear h I
  go_enter Tryd.func31, Tryd.ntmps31
  go_wp2_with fail
  refine HM.out.mono ?_
  rintro e w' ⟨rfl, rfl⟩
  go_wp2_with fail
  refine HC.out.mono ?_
  rintro e w' ⟨v, rfl, h1, _, h2⟩
  have H1 := Lib.hid h1
  have H2 := Lib.hid h2
  clear h1 h2
  go_wp2
  go_ret
  exact ⟨_, rfl, H1.out, H2.out⟩
end Go.Proofs.YtcooapflofiolaaDoor.MS
