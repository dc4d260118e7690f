/- The document's examples are as it says. -/
import Derived.Test.YtbjhpifllgoffaaQa
namespace Go.Proofs.Ytbjhpifllgoffaa
open Go Go.RowKit Go.Maps Go.Conc
set_option linter.unusedVariables false
set_option linter.unusedSimpArgs false
set_option maxRecDepth 100000
set_option maxHeartbeats 2000000
theorem rdy_ex : rdyN (rdyF [1, 2, 3] (hear (fun _ => none) 2 3) 1) ([] ++ [(7, 5, 3)]) = 1 := by
  show rdyN _ [(7, 5, 3)] = 1
  unfold rdyN rdyF
  rw [majG_fst]; decide
theorem rd_new3 (w : World) (x y z : Int) : Rd (w.alloc (.cells #[.int .i64 x, .int .i64 y, .int .i64 z] 3)) (some ⟨w.heap.size, 0, none⟩) 3 [x, y, z] :=
  ⟨rfl, .inr ⟨w.heap.size, 0, rfl, fun j hj => by
    have : j = 0 ∨ j = 1 ∨ j = 2 := by omega
    rcases this with rfl | rfl | rfl <;> simp only [World.cell?, heap_alloc_new] <;> rfl⟩⟩
theorem lives_any (w : World) : Calls Try.prog 9 #[] w fun e w' => e = .returned (.bool true) ∧ Below w.heap.size w w' := by
  go_enter Try.func9, Try.ntmps9
  go_wp2_with fail
  refine Calls.mono (show Calls Try.prog 8 #[.int .i64 1] _ _ from qnew_at 1 w (by decide) (by decide)) ?_
  rintro e w1 ⟨rfl, hQ, hB, hz⟩
  have HQ := Lib.hid hQ
  have HB := Lib.hid hB
  have HZ := Lib.hid hz
  clear hQ hB hz
  go_wp2_with fail
  refine (push_at _ _ 1 [] 1 w1 HQ.out (by decide)).mono ?_
  rintro e w2 ⟨rfl, hQ2, hK2⟩
  have HQ2 := Lib.hid hQ2
  have HB2 : Hid (Below w.heap.size w w2) := HB.out.trans (hK2.below HB.out.size (fun j _ e => by omega))
  have hs2 := hK2.size
  clear hQ2 hK2
  go_wp2_with fail
  refine (push_no _ _ 1 [1] 2 w2 HQ2.out (by decide)).mono ?_
  rintro e w2' ⟨rfl, rfl⟩
  go_wp2_with fail
  refine (pop_at _ _ 1 1 [] w2 HQ2.out).mono ?_
  rintro e w3 ⟨rfl, hQ3, hK3⟩
  have HB3 : Hid (Below w.heap.size w w3) := HB2.out.trans (hK3.below HB2.out.size (fun j _ e => by omega))
  clear hQ3 hK3 HQ HQ2 HZ hs2
  go_wp2_with fail
  refine (rnew_at w3).mono ?_
  rintro e w4 ⟨p, hp, rfl, hR, hB⟩
  have HR := Lib.hid hR
  have HB4 : Hid (Below w.heap.size w w4) := HB3.out.trans (hB.mono HB3.out.size)
  have HP := Lib.hid hp
  clear hp hR hB
  go_wp2_with fail
  refine (add_at p _ 0 _ [] 7 5 3 w4 HR.out (by decide)).mono ?_
  rintro e w5 ⟨rfl, q, hqb, hqm, hR5, ho5, hK5⟩
  rw [show addB [] 3 = true from rfl] at hR5 ⊢
  rw [if_pos rfl] at hR5
  have HB5 : Hid (Below w.heap.size w w5) := HB4.out.trans (hK5.below HB4.out.size (fun j _ e => Nat.le_trans HB3.out.size (HR.out.own_ge j e)))
  have HR5 := Lib.hid hR5
  have HQB := Lib.hid hqb
  clear hR5 ho5 hK5 hqm hqb
  go_wp2_with fail
  rw [← HQB.out]
  refine (said_at q _ 0 _ _ 2 3 w5 HR5.out (by decide) (by decide) (by decide)).mono ?_
  rintro e w6 ⟨rfl, q2, hqb, hqm, hR6, ho6, hK6⟩
  have HB6 : Hid (Below w.heap.size w w6) := HB5.out.trans (hK6.below HB5.out.size (fun j _ e => Nat.le_trans HB3.out.size (HR5.out.own_ge j e)))
  have HR6 := Lib.hid hR6
  have HQB2 := Lib.hid hqb
  clear hR6 ho6 hK6 hqm hqb
  go_wp2_with fail
  rw [← HQB2.out]
  have R3 := Lib.hid (rd_new3 w6 1 2 3)
  have HR7 := Lib.hid (HR6.out.kept ((Kept.refl (fun _ => False) w6).alloc (.cells #[.int .i64 1, .int .i64 2, .int .i64 3] 3)) (fun _ _ h => h))
  refine (ready_any q2 _ 1 _ _ _ 3 3 [1, 2, 3] _ 1 _ HR7.out (by decide) (by decide) R3.out (by decide) ⟨_, _, _, rfl⟩).mono ?_
  rintro e w7 ⟨v, rfl, hrow, q3, hqb3, hqm3, hR7, ho7, hK7⟩
  rw [rdy_ex] at hrow hR7
  have HB7 : Hid (Below w.heap.size w w7) := (HB6.out.alloc HB6.out.size _).trans (hK7.below (by have := HB6.out.size; simp; omega) (fun j _ e => by subst e; exact Nat.le_trans HB3.out.size (HR6.out.own_ge _ (.inl rfl))))
  obtain ⟨g, cap, rfl, hcell⟩ : ∃ g cap, v = .slice (some ⟨g, 0, none⟩) 1 cap ∧ (w7.cell? ⟨g, 0, none⟩ = some (.int .i64 7) ∧ w7.cell? ⟨g, 1, none⟩ = some (.int .i64 5)) := by
    rcases hrow.2 with ⟨_, h0⟩ | ⟨g, cap, cur, rfl, hb, hg, h2, h3, h4, h5⟩
    · cases h0
    · have hc := hrow.cells (g := g) rfl
      exact ⟨g, cap, rfl, by have := hc 0 (.int .i64 7) rfl; rw [Addr.add_lit] at this; simpa using this, by have := hc 1 (.int .i64 5) rfl; rw [Addr.add_lit] at this; simpa using this⟩
  obtain ⟨k0, k1⟩ := hcell
  clear hrow hR7 ho7 hK7 hqb3 hqm3
  go_wp2_with fail
  go_ret
  exact ⟨rfl, HB7.out⟩
end Go.Proofs.Ytbjhpifllgoffaa
