/- Two lists, one behind the other; the members. -/
import Derived.Test.YtedifbdjcebefaaAllPlain
import Derived.Shelf.Spec.SlicesGrow
import Derived.Ground.Names8Prog
namespace Go.Proofs.Ytedifbdjcebefaa
open Go Go.RowKit Go.Shelf Go.Sort
set_option linter.unusedVariables false
set_option linter.unusedSimpArgs false
set_option maxRecDepth 100000
set_option maxHeartbeats 2000000
shelf_lay_g Lays8.n4 Nm8 4 at Try 46 as Try.laysGrow
theorem grow_any (t : Nat) (ht : t ≤ 1000) (w : World) : Calls Try.prog 46 #[.slice none 0 0, .int .i64 (t : Int)] w fun e w' => ∃ v, e = .returned v ∧ w'.ownsRow w.heap.size 3 1 v 0 [] ∧ Below w.heap.size w w' := by
  rcases Nat.eq_zero_or_pos t with rfl | hpos
  · refine (Any8.slices_Grow_room Try.laysGrow none 0 0 0 w (by omega) (by omega) (by omega) (by omega)).mono ?_
    rintro e w' ⟨rfl, rfl⟩
    exact ⟨_, rfl, World.ownsRow_nil _ _ _ _, Below.refl _ _⟩
  · obtain ⟨i0, hi, hz0, hz1, hz2⟩ := info_parts Try.info3
    refine (Any8.slices_Grow_grow Try.laysGrow i0 (.int .i64 0) hi hz0 (by omega) none 0 0 t [] w (by omega) (by omega) (by rw [hz2]; omega) (by omega) (by simp) (fun _ => rfl) (fun a h => by cases h)).mono ?_
    rintro e w' ⟨rfl, rfl⟩
    refine ⟨_, rfl, ⟨rfl, .inr ⟨w.heap.size, _, _, rfl, Nat.le_refl _, heap_alloc_new _ _, Nat.zero_le _, ?_, ?_, rfl⟩⟩, ((Below.refl _ w).drew).alloc (Nat.le_refl _) _⟩
    · exact grownCap_le_maxLen _ _ _ _ (by simp only [maxLen]; omega)
    · have hg := grownCap_ge w (0 + t) 0 (Try.laysGrow_ren.t 25)
      have hzc : ∀ m, (Builtin.zeroCells (Value.int .i64 0).cells m).size = m := by intro m; simp [Builtin.zeroCells, Value.cells]
      simp only [Array.size_append, hzc, List.size_toArray, List.length_nil]
      omega
theorem run_append_rd (base : Nat) (v : Value) (n : Nat) (xs : List Value) (ty : TypeId) (a : Option Addr) (k c : Nat) (l : List Int) (w : World) (hown : w.ownsRow base 3 1 v n xs) (hR : Rd w a k l) (hn : n ≤ 1000) (hk : k ≤ 1000) (hb : base ≤ w.heap.size) :
    ∃ v' w', (Builtin.append_ #[22, 22] ty #[v, .slice a k c]).run Try.prog w = .ok v' w' ∧ w'.ownsRow base 3 1 v' (n + k) (xs ++ l.map (Value.int .i64)) ∧ w.grownBy w' v.ownBlock := by
  obtain ⟨i0, hi, hz0, hz1, hz2⟩ := info_parts Try.info3
  have hl := hR.1
  rcases Nat.eq_zero_or_pos k with rfl | hpos
  · have hl0 : l = [] := List.eq_nil_of_length_eq_zero hl
    subst hl0
    refine ⟨v, w, ?_, by simpa using hown, ⟨rfl, rfl, rfl, Nat.le_refl _, fun _ _ _ => rfl⟩⟩
    rcases hown.2 with ⟨rfl, h0⟩ | ⟨g, cap, cur, rfl, _, hg, h2, h3, h4, h5⟩
    · subst h0
      cases a <;> simp [Builtin.append_, run_underlying Try.underlying22, sizeOf, typeInfo, hi, Builtin.lenOf, Builtin.firstCells, loadCells, loadCellsFrom, storeCells]
    · cases a <;> simp [Builtin.append_, run_underlying Try.underlying22, sizeOf, typeInfo, hi, Builtin.lenOf, Builtin.firstCells, loadCells, loadCellsFrom, storeCells, h2]
  · obtain ⟨b, off, rfl, hall⟩ := hR.all hpos
    obtain ⟨v', w', hr, h1, h2, _⟩ := run_append_own (P := Try.prog) w base 22 ty 3 i0 (.int .i64 0) 1 8 Try.underlying22 hi hz0 hz1 hz2 rfl (by decide) v n xs hown ⟨b, off, none⟩ k c (l.map (Value.int .i64)) (by simpa using hl) (fun j u hu => by
      have hj : j < l.length := by have := (List.getElem?_eq_some_iff.1 hu).1; simpa using this
      rw [Addr.add_lit, hall j (by omega)]
      rw [List.getElem?_map, List.getElem?_eq_getElem hj] at hu
      rw [List.getD_eq_getElem?_getD, List.getElem?_eq_getElem hj]
      simpa using hu) (fun u hu => by obtain ⟨y, _, rfl⟩ := List.mem_map.1 hu; rfl) (by simp only [maxLen]; omega) (by omega) hb
    exact ⟨v', w', hr, h1, h2⟩
theorem wpList_append_rd {ops : Array Oper} {rest : List Oper} {o : Oper} {ac : Act} {w : World} {Q : Exit → Act → World → Prop} (hgd : o.guard = none) (s x : Operand)
    (ho : o.op = .call { callee := .builtin .append, args := #[s, x], argTypes := #[22, 22] })
    (base : Nat) (v : Value) (n : Nat) (xs : List Value) (hs : ac.eval s = v) (hown : w.ownsRow base 3 1 v n xs) (a : Option Addr) (k c : Nat) (hx : ac.eval x = .slice a k c) (l : List Int) (hR : Rd w a k l) (hn : n ≤ 1000) (hk : k ≤ 1000) (hb : base ≤ w.heap.size)
    (h : ∀ v' w', w'.ownsRow base 3 1 v' (n + k) (xs ++ l.map (Value.int .i64)) → w.grownBy w' v.ownBlock → wpList Try.prog ops Q rest (ac.put o.dst v') w') : wpList Try.prog ops Q (o :: rest) ac w :=
  wpList_plain hgd fun K hK => by
    obtain ⟨v', w', hr, h2, h3⟩ := run_append_rd base v n xs o.type a k c l w hown hR hn hk hb
    unfold Oper.wp execOp
    simp only [ho, resolve, invoke, builtin, Sem.run_bind, Sem.run_pure, Result.andThen_ok, List.map_toArray, List.map_cons, List.map_nil, hs, hx, hr]
    exact hK _ _ (h v' w' h2 h3)
def part (V L : List Int) (k : Nat) : List Int := if k = 0 then [] else if k = 1 then V else V ++ L
theorem concat_any (blk : Nat) (a : Option Addr) (n c : Nat) (V : List Int) (b : Option Addr) (m d : Nat) (L : List Int) (w : World) (hblk : w.heap[blk]? = some (.cells #[.slice a n c, .slice b m d] 22 (0, 0))) (hV : Rd w a n V) (hL : Rd w b m L) (hn : n ≤ 400) (hm : m ≤ 400) :
    Calls Try.prog 33 #[.slice (some ⟨blk, 0, none⟩) 2 2] w fun e w' => ∃ a' n' c', e = .returned (.slice a' n' c') ∧ Rd w' a' n' (V ++ L) ∧ Below w.heap.size w w' := by
  have hc0 : w.cell? ⟨blk, 0, none⟩ = some (.slice a n c) := by simp [World.cell?, hblk]
  have hc1 : w.cell? ⟨blk, 1, none⟩ = some (.slice b m d) := by simp [World.cell?, hblk]
  have HB := Lib.hid hblk
  have R1 := Lib.hid hV
  have R2 := Lib.hid hL
  have HVL := Lib.hid hV.1
  have HLL := Lib.hid hL.1
  obtain ⟨s, hs⟩ : ∃ s, s = w.heap.size := ⟨_, rfl⟩
  have HS := Lib.hid hs
  clear hblk hV hL hs
  go_enter Try.func33, Try.ntmps33
  go_wp2_with fail
  go_loop [3, 11] (fun zv iv => ∃ k : Nat, k ≤ 2 ∧ iv = .int .i64 k ∧ zv = .int .i64 ((if k = 0 then 0 else if k = 1 then n else n + m : Nat) : Int)) (fun _ iv => 2 - (intOf iv).toNat)
  case atStart => exact ⟨0, by omega, rfl, rfl⟩
  case round =>
    obtain ⟨k, hk, rfl, rfl⟩ := hrel
    rcases (show k = 0 ∨ k = 1 ∨ k = 2 by omega) with rfl | rfl | rfl
    · go_wp2
      go_round
      case rel => exact ⟨1, by omega, by go_num, by simp⟩
      case measure => simp [intOf]
    · go_wp2
      go_round
      case rel => exact ⟨2, by omega, by go_num, by simp⟩
      case measure => simp [intOf]
    · have hsum : (((if (2 : Nat) = 0 then 0 else if (2 : Nat) = 1 then n else n + m : Nat)) : Int) = ((n + m : Nat) : Int) := by simp
      rw [hsum]
      clear hsum
      go_wp2_with fail
      have G := grow_any (n + m) (by omega) w
      rw [Int.natCast_add] at G
      refine G.mono ?_
      rintro e w1 ⟨v, rfl, hrow, hb⟩
      rw [← HS.out] at hrow hb
      have H1 := Lib.hid hrow
      have H2 := Lib.hid hb
      clear hrow hb G
      go_wp2_with fail
      go_loopw [6, 27] (fun v iv wr => ∃ k : Nat, k ≤ 2 ∧ iv = .int .i64 k ∧ wr.ownsRow s 3 1 v (if k = 0 then 0 else if k = 1 then n else n + m) ((part V L k).map (Value.int .i64)) ∧ Below s w wr) (fun _ iv _ => 2 - (intOf iv).toNat)
      case atStart => exact ⟨0, by omega, rfl, H1.out, H2.out⟩
      case round =>
        clear H1 H2 hc0 hc1
        obtain ⟨k, hk, rfl, hrow, hB⟩ := hrel
        have hblk : wr.heap[blk]? = some (.cells #[.slice a n c, .slice b m d] 22 (0, 0)) := (hB.block blk (by rw [HS.out]; exact (Array.getElem?_eq_some_iff.1 HB.out).1)).trans HB.out
        have hc0 : wr.cell? ⟨blk, 0, none⟩ = some (.slice a n c) := by simp [World.cell?, hblk]
        have hc1 : wr.cell? ⟨blk, 1, none⟩ = some (.slice b m d) := by simp [World.cell?, hblk]
        have T1 := Lib.hid (R1.out.keep (Nat.le_of_eq HS.out.symm) hB)
        have T2 := Lib.hid (R2.out.keep (Nat.le_of_eq HS.out.symm) hB)
        have hz : s ≤ wr.heap.size := by have := hB.size; have := HS.out; omega
        have HROW := Lib.hid hrow
        have HBW := Lib.hid hB
        clear hblk hrow hB
        rcases (show k = 0 ∨ k = 1 ∨ k = 2 by omega) with rfl | rfl | rfl
        · go_wp2_with (at_builtin; refine wpList_append_rd rfl _ _ rfl s _ 0 [] rfl HROW.out a n c rfl V T1.out (by omega) (by omega) hz ?_; intro v' w' hown hgr)
          have HO : Hid (w'.ownsRow s 3 1 v' n (V.map (Value.int .i64))) := by
            show World.ownsRow _ _ _ _ _ _ _
            simpa using hown
          have HB2 : Hid (Below s w w') := HBW.out.grown hgr (by omega) (fun j ej => own_blk HROW.out ej)
          clear hown hgr
          go_roundw
          case rel => exact ⟨1, by omega, by go_num, HO.out, HB2.out⟩
          case measure => simp [intOf]
        · have HR1 : Hid (wr.ownsRow s 3 1 u6 n (V.map (Value.int .i64))) := HROW.out
          clear HROW
          go_wp2_with (at_builtin; refine wpList_append_rd rfl _ _ rfl s _ n _ rfl HR1.out b m d rfl L T2.out (by omega) (by omega) hz ?_; intro v' w' hown hgr)
          have HO : Hid (w'.ownsRow s 3 1 v' (n + m) ((V ++ L).map (Value.int .i64))) := by
            show World.ownsRow _ _ _ _ _ _ _
            rw [List.map_append]; exact hown
          have HB2 : Hid (Below s w w') := HBW.out.grown hgr (by omega) (fun j ej => own_blk HR1.out ej)
          clear hown hgr
          go_roundw
          case rel => exact ⟨2, by omega, by go_num, HO.out, HB2.out⟩
          case measure => simp [intOf]
        · have HR1 : wr.ownsRow s 3 1 u6 (n + m) ((V ++ L).map (Value.int .i64)) := HROW.out
          obtain ⟨a', c', rfl, hRd⟩ := own_rd HR1
          have HD := Lib.hid hRd
          have HBB : Hid (Below w.heap.size w wr) := by
            show RowKit.Below _ _ _
            rw [← HS.out]; exact HBW.out
          clear HR1 HROW hRd
          go_wp2
          go_ret
          first | exact ⟨_, _, _, rfl, HD.out, HBB.out⟩ | exact ⟨_, _, ⟨_, rfl⟩, HD.out, HBB.out⟩
theorem mem_any (a : Option Addr) (n c : Nat) (V : List Int) (b : Option Addr) (m d : Nat) (L : List Int) (w : World) (hV : Rd w a n V) (hL : Rd w b m L) (hn : n ≤ 400) (hm : m ≤ 400) :
    Calls Try.prog 21 #[.agg #[.slice a n c, .slice b m d]] w fun e w' => ∃ a' n' c', e = .returned (.slice a' n' c') ∧ Rd w' a' n' (srt (V ++ L)) ∧ Below w.heap.size w w' := by
  have L1 : Hid (Below w.heap.size w ((w.alloc (.cells #[.slice a n c, .slice b m d] 24)).alloc (.cells #[.slice a n c, .slice b m d] 22))) := ((Below.refl _ w).alloc (Nat.le_refl _) _).alloc (by simp) _
  have hz : (w.alloc (.cells #[.slice a n c, .slice b m d] 24)).heap.size = w.heap.size + 1 := by simp
  have hblk := heap_alloc_new (w.alloc (.cells #[.slice a n c, .slice b m d] 24)) (.cells #[.slice a n c, .slice b m d] 22)
  rw [hz] at hblk
  have HB := Lib.hid hblk
  have R1 := Lib.hid (hV.keep (Nat.le_refl _) L1.out)
  have R2 := Lib.hid (hL.keep (Nat.le_refl _) L1.out)
  have HVL := Lib.hid hV.1
  have HLL := Lib.hid hL.1
  clear hV hL hblk hz
  go_enter Try.func21, Try.ntmps21
  go_wp2_with fail
  refine (concat_any (w.heap.size + 1) a n c V b m d L _ HB.out R1.out R2.out hn hm).mono ?_
  rintro e w1 ⟨a1, n1, c1, rfl, hr1, hb⟩
  have L2 := Lib.hid (L1.out.trans (hb.mono L1.out.size))
  have S1 := Lib.hid hr1
  have hn1 : n1 ≤ 1000 := by
    have h1 := hr1.1
    rw [List.length_append, HVL.out, HLL.out] at h1
    omega
  clear hb hr1 HB R1 R2 L1
  go_wp2_with fail
  refine (vals_any a1 n1 c1 _).mono ?_
  rintro e w2 ⟨rfl, hw2⟩
  have hB : w2.heap[w1.heap.size]? = some (.cells #[.slice a1 n1 c1] 22 (0, 0)) := by rw [hw2]; exact heap_alloc_new _ _
  have S2 : Hid (Rd w2 a1 n1 (V ++ L)) := by
    show Rd _ _ _ _
    rw [hw2]; exact S1.out.keep (Nat.le_refl _) ((Below.refl _ _).alloc (Nat.le_refl _) _)
  have L3 : Hid (Below w.heap.size w w2) := by
    show RowKit.Below _ _ _
    rw [hw2]; exact L2.out.alloc L2.out.size _
  have HB := Lib.hid hB
  clear hB hw2 S1 L2
  go_wp2_with fail
  refine (sorted_any w1.heap.size a1 n1 c1 (V ++ L) hn1 w2 HB.out S2.out).mono ?_
  rintro e w3 ⟨v, rfl, hrow, hb⟩
  rw [srt_len, List.length_append] at hrow
  obtain ⟨a3, c3, rfl, hRd⟩ := own_rd hrow
  have L4 := Lib.hid (L3.out.trans (hb.mono L3.out.size))
  have HD := Lib.hid hRd
  clear hb hrow hRd
  go_wp2_with fail
  go_ret
  first | exact ⟨_, _, _, rfl, HD.out, L4.out⟩ | exact ⟨_, _, ⟨_, rfl⟩, HD.out, L4.out⟩
end Go.Proofs.Ytedifbdjcebefaa
