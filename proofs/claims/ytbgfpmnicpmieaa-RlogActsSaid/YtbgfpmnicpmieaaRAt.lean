/- Where an entry stands: by sort.Search. -/
import Derived.Test.YtbgfpmnicpmieaaRBase
import Derived.Shelf.Lay
import Derived.Shelf.SlSorted.Search
import Derived.Ground.SlsoProg
namespace Go.Proofs.Ytbgfpmnicpmieaa
open Go Go.RowKit Go.Shelf Go.Sort
set_option linter.unusedVariables false
set_option linter.unusedSimpArgs false
set_option maxRecDepth 100000
set_option maxHeartbeats 1000000
shelf_lay SlLaysO.n16 Slso 16 at Try as Try.search
theorem below_grow (w : World) (m : Nat) (os : Array Obj) : Below w.heap.size w (grow (w.drewN m) os) :=
  ⟨rfl, rfl, rfl, by show w.heap.size ≤ (w.heap ++ os).size; rw [Array.size_append]; omega, fun _ hj => Sort.heap_grow_old (w.drewN m) os hj⟩
theorem search_any (Bl Bi b : Nat) (l : Lg) (ps : List (Int × Int)) (i : Int) (w : World) (h1 : w.cell? ⟨Bl, 0, none⟩ = some (.pointer (some ⟨b, 0, none⟩))) (h2 : w.cell? ⟨Bi, 0, none⟩ = some (.int .i64 i)) (hb : LB w b l) (he : EP w l.a l.n ps) (hn : l.n ≤ 1000) (hu : upP ps) :
    Calls Try.prog 62 #[.int .i64 (l.n : Int), .func (.func 63) #[] #[.pointer (some ⟨Bl, 0, none⟩), .pointer (some ⟨Bi, 0, none⟩)]] w fun e w' => e = .returned (.int .i64 (atN ps i : Nat)) ∧ Below w.heap.size w w' := by
  have eg : ∀ args w, (callFunc 63 args).run Try.prog w = .ok (.enter 63 args) w := enters_of Try.func63 (by kernel_rfl) rfl
  have hl := he.1
  refine (Any.sort_Search Try.search 63 #[.pointer (some ⟨Bl, 0, none⟩), .pointer (some ⟨Bi, 0, none⟩)] l.n (fun k => decide (i ≤ (ps.getD k (0, 0)).1)) w eg (by omega) (fun m os k hk => ?_) (fun x y hxy hy hp => ?_)).mono ?_
  · have hB := below_grow w m os
    refine (gives63 Bl Bi b l ps i k _ ((hB.cell (cell_block_lt h1)).trans h1) ((hB.cell (cell_block_lt h2)).trans h2) (hb.below (Nat.le_refl _) hB) (he.keep (Nat.le_refl _) hB) hk hn).mono ?_
    rintro e w' ⟨rfl, q, rfl⟩
    exact ⟨rfl, q, #[], (Sort.grow_empty _).symm⟩
  · have := hu x y hxy (by omega)
    simp only [decide_eq_true_eq] at hp ⊢
    omega
  · rintro e w' ⟨rfl, q, os, rfl⟩
    refine ⟨by rw [atN, hl], below_grow w q os⟩
theorem at_any (b : Nat) (l : Lg) (ps : List (Int × Int)) (i : Int) (w : World) (hb : LB w b l) (he : EP w l.a l.n ps) (hn : l.n ≤ 1000) (hu : upP ps) :
    Calls Try.prog 40 #[.pointer (some ⟨b, 0, none⟩), .int .i64 i] w fun e w' => e = .returned (.int .i64 (atN ps i : Nat)) ∧ Below w.heap.size w w' := by
  have L1 : Hid (Below w.heap.size w ((w.alloc (.cells #[.pointer (some ⟨b, 0, none⟩)] 27)).alloc (.cells #[.int .i64 i] 3))) := ((Below.refl _ w).alloc (Nat.le_refl _) _).alloc (by simp) _
  have C1 : Hid (((w.alloc (.cells #[.pointer (some ⟨b, 0, none⟩)] 27)).alloc (.cells #[.int .i64 i] 3)).cell? ⟨w.heap.size, 0, none⟩ = some (.pointer (some ⟨b, 0, none⟩))) := by show _ = _; simp
  have C2 : Hid (((w.alloc (.cells #[.pointer (some ⟨b, 0, none⟩)] 27)).alloc (.cells #[.int .i64 i] 3)).cell? ⟨w.heap.size + 1, 0, none⟩ = some (.int .i64 i)) := by show _ = _; simp
  have B1 := Lib.hid (hb.below (Nat.le_refl _) L1.out)
  have E1 := Lib.hid (he.keep (Nat.le_refl _) L1.out)
  have HU := Lib.hid hu
  have h2 := B1.out.c2
  clear hb he hu
  go_enter Try.func40, Try.ntmps40
  go_wp2_with fail
  refine (search_any w.heap.size (w.heap.size + 1) b l ps i _ C1.out C2.out B1.out E1.out hn HU.out).mono ?_
  rintro e w1 ⟨rfl, hb⟩
  have L2 := Lib.hid (L1.out.trans (hb.mono L1.out.size))
  clear hb h2
  go_wp2_with fail
  go_ret
  exact ⟨rfl, L2.out⟩
end Go.Proofs.Ytbgfpmnicpmieaa
