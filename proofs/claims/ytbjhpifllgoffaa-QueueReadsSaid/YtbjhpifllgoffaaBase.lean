/- Lists that came in; Has, Contains; small laws. -/
import Derived.Test.YtbjhpifllgoffaaProg
import Derived.WalkKit
import Derived.WalkSpells
import Derived.WalkMore
import Derived.IntWalk
import Derived.Lib.Hide
import Derived.OpenShut
import Derived.ChangeOld
import Derived.Below
import Derived.Sort.Row
import Derived.Sort.OwnSortedInts
import Derived.KernelRfl
import Derived.Laws.Rows
namespace Go.Proofs.Ytbjhpifllgoffaa
open Go Go.RowKit
set_option linter.unusedVariables false
set_option linter.unusedSimpArgs false
set_option maxRecDepth 100000
set_option maxHeartbeats 1000000
theorem ret_int {k : IntKind} {a b : Int} (h : a = b) : Ending.returned (.int k a) = .returned (.int k b) := by rw [h]
/-- A slice of numbers that came in. -/
def IsRow (w : World) (a : Option Addr) (len cap : Nat) (zs : List Int) : Prop :=
  (a = none ∧ len = 0 ∧ cap = 0 ∧ zs = []) ∨
  ∃ x, a = some x ∧ len ≤ cap ∧ cap ≤ maxLen ∧ zs.length = cap ∧ (∀ i, i < zs.length → w.cell? (x.add i) = some (.int .i64 (zs.getD i 0))) ∧ ∀ n ∈ zs, (Lit.int .i64 n).wf = true
theorem IsRow.len {w : World} {a : Option Addr} {len cap : Nat} {zs : List Int} (h : IsRow w a len cap zs) : len ≤ zs.length := by
  rcases h with ⟨_, rfl, _, rfl⟩ | ⟨x, rfl, hl, hm, hz, hcell, hwz⟩
  · simp
  · omega
theorem IsRow.whole {w : World} {a : Option Addr} {len cap : Nat} {zs : List Int} (h : IsRow w a len cap zs) (hk : 0 < len) : ∃ (b off : Nat), a = some ⟨b, off, none⟩ ∧ (∀ j, j < zs.length → w.cell? ⟨b, off + j, none⟩ = some (.int .i64 (zs.getD j 0))) ∧ b < w.heap.size := by
  rcases h with ⟨_, rfl, _, _⟩ | ⟨x, rfl, hl, hm, hz, hcell, hwz⟩
  · omega
  · obtain ⟨b, off, spot⟩ := x
    have hc00 := hcell 0 (by omega)
    have hspot : spot = none := by simpa [Addr.add] using World.cell?_spot hc00
    subst hspot
    have hall : ∀ j, j < zs.length → w.cell? ⟨b, off + j, none⟩ = some (.int .i64 (zs.getD j 0)) := fun j hj => by
      have hadd : (⟨b, off, none⟩ : Addr).add j = ⟨b, off + j, none⟩ := by unfold Addr.add; split <;> simp_all
      rw [← hadd]; exact hcell j hj
    refine ⟨b, off, rfl, hall, ?_⟩
    have hc0 := hall 0 (by omega)
    unfold World.cell? at hc0
    cases e : w.heap[b]? with
    | none => simp [e] at hc0
    | some o => exact (Array.getElem?_eq_some_iff.1 e).1
theorem take_snoc (z : List Int) (k : Nat) (h : k < z.length) : z.take (k + 1) = z.take k ++ [z.getD k 0] := by
  rw [List.take_succ_eq_append_getElem h]; simp [List.getD_eq_getElem?_getD, List.getElem?_eq_getElem h]
def bI (l : List Int) (n : Int) : Bool := l.any (· == n)
theorem bI_snoc (l : List Int) (x n : Int) : bI (l ++ [x]) n = (bI l n || x == n) := by simp [bI]
theorem ret_bool {a b : Bool} (h : a = b) : Ending.returned (.bool a) = .returned (.bool b) := by rw [h]
/-- A list of n elements that a slice leads to. -/
def Rd (w : World) (a : Option Addr) (n : Nat) (l : List Int) : Prop :=
  l.length = n ∧ (n = 0 ∨ ∃ b off, a = some ⟨b, off, none⟩ ∧ ∀ j, j < n → w.cell? ⟨b, off + j, none⟩ = some (.int .i64 (l.getD j 0)))
theorem Rd.at {w : World} {a : Option Addr} {n : Nat} {l : List Int} (h : Rd w a n l) {k : Nat} (hk : k < n) : ∃ b off, a = some ⟨b, off, none⟩ ∧ w.cell? ⟨b, off + k, none⟩ = some (.int .i64 (l.getD k 0)) := by
  rcases h.2 with rfl | ⟨b, off, e, hc⟩
  · omega
  · exact ⟨b, off, e, hc k hk⟩
theorem Rd.pre {w : World} {a : Option Addr} {n : Nat} {l : List Int} (h : Rd w a n l) {k : Nat} (hk : k ≤ n) : Rd w a k (l.take k) := by
  refine ⟨by have := h.1; simp; omega, ?_⟩
  rcases h.2 with rfl | ⟨b, off, e, hc⟩
  · exact .inl (by omega)
  · exact .inr ⟨b, off, e, fun j hj => by rw [hc j (by omega), List.getD_eq_getElem?_getD, List.getD_eq_getElem?_getD, List.getElem?_take_of_lt hj]⟩
theorem IsRow.rd {w : World} {a : Option Addr} {n c : Nat} {z : List Int} (h : IsRow w a n c z) : Rd w a n (z.take n) := by
  have hl := h.len
  refine ⟨by simp; omega, ?_⟩
  by_cases h0 : n = 0
  · exact .inl h0
  · obtain ⟨b, off, e, hc, _⟩ := h.whole (by omega)
    exact .inr ⟨b, off, e, fun j hj => by rw [hc j (by omega), List.getD_eq_getElem?_getD, List.getD_eq_getElem?_getD, List.getElem?_take_of_lt hj]⟩
theorem has_any (a : Option Addr) (n c : Nat) (l : List Int) (x : Int) (w : World) (hR : Rd w a n l) (hb : n ≤ 1000) : Calls Try.prog 19 #[.slice a n c, .int .i64 x] w fun e w' => e = .returned (.bool (bI l x)) ∧ w = w' := by
  have HR := Lib.hid hR
  clear hR
  go_enter Try.func19, Try.ntmps19
  go_wp2_with fail
  go_loop [9] (fun iv => ∃ k : Nat, k ≤ n ∧ iv = .int .i64 k ∧ bI (l.take k) x = false) (fun iv => n - (intOf iv).toNat)
  case atStart => exact ⟨0, by omega, rfl, rfl⟩
  case round =>
    obtain ⟨k, hk, rfl, hf⟩ := hrel
    have HF := Lib.hid hf
    clear hf
    by_cases hlt : k < n
    · obtain ⟨b, off, rfl, hc⟩ := HR.out.at hlt
      have HS := Lib.hid (take_snoc l k (by have := HR.out.1; omega))
      have S1 := Lib.hid (bI_snoc (l.take k) (l.getD k 0) x)
      have HM : Hid (l.getD k 0 ∈ l) := by
        show _ ∈ _
        have h1 := HR.out.1
        rw [List.getD_eq_getElem?_getD, List.getElem?_eq_getElem (by omega)]; simp
      generalize l.getD k 0 = y at *
      cases hyx : (y == x)
      · go_wp2
        go_round
        case rel => exact ⟨k + 1, by omega, by go_num, by rw [HS.out, S1.out, HF.out, hyx]; rfl⟩
        case measure => simp [intOf]; omega
      · have HT : Hid (bI l x = true) := by
          show _ = _
          simp only [bI, List.any_eq_true]
          exact ⟨y, HM.out, hyx⟩
        go_wp2
        go_ret
        exact ⟨ret_bool HT.out.symm, rfl⟩
    · have HT : Hid (bI l x = false) := by
        show _ = _
        have := HF.out
        rwa [List.take_of_length_le (by have := HR.out.1; omega)] at this
      go_wp2
      go_ret
      exact ⟨ret_bool HT.out.symm, rfl⟩
theorem index_any (a : Option Addr) (n c : Nat) (l : List Int) (x : Int) (w : World) (hR : Rd w a n l) (hb : n ≤ 1000) : Calls Try.prog 46 #[.slice a n c, .int .i64 x] w fun e w' => ∃ r : Int, e = .returned (.int .i64 r) ∧ decide (0 ≤ r) = bI l x ∧ w = w' := by
  have HR := Lib.hid hR
  clear hR
  go_enter Try.func46, Try.ntmps46
  go_wp2_with fail
  go_loop [8] (fun iv => ∃ k : Nat, k ≤ n ∧ iv = .int .i64 k ∧ bI (l.take k) x = false) (fun iv => n - (intOf iv).toNat)
  case atStart => exact ⟨0, by omega, rfl, rfl⟩
  case round =>
    obtain ⟨k, hk, rfl, hf⟩ := hrel
    have HF := Lib.hid hf
    clear hf
    by_cases hlt : k < n
    · obtain ⟨b, off, rfl, hc⟩ := HR.out.at hlt
      have HS := Lib.hid (take_snoc l k (by have := HR.out.1; omega))
      have S1 := Lib.hid (bI_snoc (l.take k) (l.getD k 0) x)
      have HM : Hid (l.getD k 0 ∈ l) := by
        show _ ∈ _
        have h1 := HR.out.1
        rw [List.getD_eq_getElem?_getD, List.getElem?_eq_getElem (by omega)]; simp
      generalize l.getD k 0 = y at *
      cases hyx : (x == y)
      · have HN : Hid ((y == x) = false) := by
          show _ = _
          rw [beq_eq_false_iff_ne] at hyx ⊢
          exact fun h => hyx h.symm
        go_wp2
        go_round
        case rel => exact ⟨k + 1, by omega, by go_num, by rw [HS.out, S1.out, HF.out, HN.out]; rfl⟩
        case measure => simp [intOf]; omega
      · have HT : Hid (bI l x = true) := by
          show _ = _
          simp only [bI, List.any_eq_true]
          refine ⟨y, HM.out, ?_⟩
          have := eq_of_beq hyx
          subst this; simp
        go_wp2
        go_ret
        exact ⟨k, rfl, by rw [HT.out]; simp, rfl⟩
    · have HT : Hid (bI l x = false) := by
        show _ = _
        have := HF.out
        rwa [List.take_of_length_le (by have := HR.out.1; omega)] at this
      go_wp2
      go_ret
      exact ⟨-1, rfl, by rw [HT.out]; rfl, rfl⟩
theorem contains_any (a : Option Addr) (n c : Nat) (l : List Int) (x : Int) (w : World) (hR : Rd w a n l) (hb : n ≤ 1000) : Calls Try.prog 42 #[.slice a n c, .int .i64 x] w fun e w' => e = .returned (.bool (bI l x)) ∧ w = w' := by
  have C := Lib.hid (index_any a n c l x w hR hb)
  clear hR
  go_enter Try.func42, Try.ntmps42
  go_wp2_with fail
  refine C.out.mono ?_
  rintro e w' ⟨r, rfl, hr, rfl⟩
  have HRR := Lib.hid hr
  clear hr
  go_wp2
  go_ret
  exact ⟨ret_bool HRR.out, rfl⟩
theorem chas_any (a : Option Addr) (n c : Nat) (l : List Int) (x : Int) (w : World) (hR : Rd w a n l) (hb : n ≤ 1000) : Calls Try.prog 38 #[.slice a n c, .int .i64 x] w fun e w' => e = .returned (.bool (bI l x)) ∧ w = w' := by
  have C := Lib.hid (contains_any a n c l x w hR hb)
  clear hR
  go_enter Try.func38, Try.ntmps38
  go_wp2_with (go_at_call 42; refine C.out.mono ?_; rintro e w' ⟨rfl, rfl⟩)
  go_ret
  exact ⟨rfl, rfl⟩
/-! ### small laws -/
open Go.Sort
theorem cell_block_lt {W : World} {p : Addr} {x : Value} (h : W.cell? p = some x) : p.block < W.heap.size := by
  unfold World.cell? at h
  cases e : W.heap[p.block]? with
  | none => simp [e] at h
  | some o => exact (Array.getElem?_eq_some_iff.1 e).1
theorem Rd.keep {w w' : World} {a : Option Addr} {n : Nat} {l : List Int} {m : Nat} (h : Rd w a n l) (hm : w.heap.size ≤ m) (hb : Below m w w') : Rd w' a n l := by
  refine ⟨h.1, ?_⟩
  rcases h.2 with h0 | ⟨b, off, e, hc⟩
  · exact .inl h0
  · exact .inr ⟨b, off, e, fun j hj => (hb.cell (Nat.lt_of_lt_of_le (cell_block_lt (hc j hj)) hm)).trans (hc j hj)⟩
theorem own_sl {w : World} {base : Nat} {e : TypeId} {size n : Nat} {v : Value} {xs : List Value} (h : w.ownsRow base e size v n xs) : ∃ a c, v = .slice a n c := by
  rcases h.2 with ⟨rfl, rfl⟩ | ⟨g, cap, cur, rfl, _⟩
  · exact ⟨none, 0, rfl⟩
  · exact ⟨_, _, rfl⟩
theorem below_putRow (w : World) (q blk off : Nat) (d : Array Int) (B : Nat) (h : B ≤ blk) : Below B w (putRow (Value.int .i64) (Sort.ahead w q) blk off d) :=
  ⟨rfl, rfl, rfl, by simp [size_putRow], fun k hk => by
    unfold putRow mapBlock
    show (Array.modify _ _ _)[k]? = _
    rw [Array.getElem?_modify, if_neg (by omega)]; rfl⟩
theorem holds_own {w : World} {g n : Nat} {cur : Array Value} {l : List Int} (hg : w.heap[g]? = some (.cells cur 3)) (hn : n ≤ cur.size) (hl : l.length = n) (h5 : cur.toList.take n = l.map (Value.int .i64)) : Holds (Value.int .i64) w g 0 l.toArray := fun j hj => by
  have hj' : j < l.length := by simpa using hj
  constructor
  · rw [Nat.zero_add, cell_of_row w g j cur 3 _ hg]
    have e := congrArg (fun x : List Value => x[j]?) h5
    rw [List.getElem?_take_of_lt (by omega), List.getElem?_map, List.getElem?_eq_getElem hj'] at e
    rw [getElem!_pos l.toArray j hj]
    simpa using e
  · simp [World.frozen?, hg]
theorem holds_rd {w : World} {g : Nat} {l : List Int} {m : Nat} {d : Array Int} (h : Holds (Value.int .i64) w g 0 d) (hm : m ≤ d.size) (hl : d.toList.take m = l) : Rd w (some ⟨g, 0, none⟩) m l := by
  refine ⟨by rw [← hl]; simp; omega, .inr ⟨g, 0, rfl, fun j hj => ?_⟩⟩
  rw [(h j (by omega)).1, getElem!_pos d j (by omega), ← hl, List.getD_eq_getElem?_getD, List.getElem?_take_of_lt hj]
  simp [Array.getElem?_eq_getElem (show j < d.size by omega)]
theorem own_blk {w : World} {base : Nat} {e : TypeId} {size n : Nat} {v : Value} {xs : List Value} (h : w.ownsRow base e size v n xs) {j : Nat} (ej : v.ownBlock = some j) : base ≤ j := by
  rcases h.2 with ⟨rfl, _⟩ | ⟨g, cap, cur, rfl, hb, _, _⟩
  · simp [Value.ownBlock] at ej
  · obtain rfl : g = j := by simpa [Value.ownBlock] using ej
    exact hb
theorem Try.info3 : (Try.prog.info? 3).map (fun i => (i.zero, i.size, i.bytes)) = some (some (.int .i64 0), 1, 8) := by kernel_rfl
end Go.Proofs.Ytbjhpifllgoffaa
