/- slices.Repeat of one word; bits.Mul with one. -/
import Derived.Test.YtcooapflofiolaaDoorSwApp
import Derived.Laws.CopyOwn
import Derived.Laws.MakeOwn
import Derived.Laws.OwnMore
namespace Go.Proofs.YtcooapflofiolaaDoor
open Go Go.RowKit Go.Shelf
set_option linter.unusedVariables false
set_option linter.unusedSimpArgs false
set_option maxRecDepth 100000
set_option maxHeartbeats 4000000
theorem mul64_one (g : Nat) (hg : g ≤ 1024) (w : World) : Calls Tryd.prog 125 #[.int .u64 1, .int .u64 (g : Int)] w fun e w' => e = .returned (.tuple #[.int .u64 0, .int .u64 (g : Int)]) ∧ w = w' := by
  have e1 : bits .and .u64 (g : Int) 4294967295 = (g : Int) := by
    have := bits_and_u64_nat g 4294967295 (by omega) (by omega)
    rw [show ((4294967295 : Nat) : Int) = 4294967295 from rfl, show (4294967295 : Nat) = 2 ^ 32 - 1 from rfl, Nat.and_two_pow_sub_one_eq_mod] at this
    rw [this]; omega
  have e2 : bits .and .u64 1 4294967295 = 1 := by decide +kernel
  have e3 : bits .and .u64 0 4294967295 = 0 := by decide +kernel
  have e4 : (g : Int) / 4294967296 = 0 := by omega
  go_enter Tryd.func125, Tryd.ntmps125
  go_wp2
  go_ret2
  simp [e4, e3]
theorem mul_one' (g : Nat) (hg : g ≤ 1024) (w : World) : Calls Tryd.prog 111 #[.int .u64 1, .int .u64 (g : Int)] w fun e w' => e = .returned (.tuple #[.int .u64 0, .int .u64 (g : Int)]) ∧ w = w' := by
  have H := Lib.hid (mul64_one g hg w)
  go_enter Tryd.func111, Tryd.ntmps111
  go_wp2_with (go_at_call 125; refine H.out.mono ?_; rintro e w' ⟨rfl, rfl⟩)
  go_ret2
  exact ⟨rfl, rfl⟩
theorem infoW : (Tryd.prog.info? 22).map (fun i => (i.zero, i.size, i.bytes)) = some (some (.int .u64 0), 1, 8) := by kernel_rfl
theorem sizeW : (Tryd.prog.info? 22).map (·.size) = some 1 := by kernel_rfl
/-- So many cells of one word, then others of nought. -/
def reps (x : Value) (n d : Nat) : List Value := List.replicate n x ++ List.replicate d (.int .u64 0)
theorem reps_len (x : Value) (n d : Nat) : (reps x n d).length = n + d := by simp [reps]
theorem reps_splice (x : Value) (n d k : Nat) (hk : k ≤ d) : splice (reps x n d) n (List.replicate k x) = reps x (n + k) (d - k) := by
  unfold splice reps
  rw [List.length_replicate, List.take_left' (by simp), ← List.drop_drop, List.drop_left' (by simp), List.drop_replicate, ← List.append_assoc, List.replicate_append_replicate]
theorem splice0 (y x : Value) (g : Nat) (hg : 1 ≤ g) : splice (reps y 0 g) 0 [x] = reps x 1 (g - 1) := by
  have h0 : reps y 0 g = reps x 0 g := rfl
  have := reps_splice x 0 g 1 hg
  rw [h0]
  simpa using this
theorem madeW (g : Nat) : (madeCells (Value.int .u64 0).cells (g * 1)) = (reps (.int .u64 0) 0 g).toArray := by
  unfold madeCells reps
  rw [Nat.mul_one]
  simp only [List.replicate_zero, List.nil_append]
  apply Array.ext
  · simp
  · intro i h1 h2
    simp [Value.cells, Nat.mod_one]
theorem repeat_any (gx : Nat) (x : Int) (cx : Nat) (g : Nat) (h1 : 1 ≤ g) (hg : g ≤ 1024) (w : World) (hx : w.cell? ⟨gx, 0, none⟩ = some (.int .u64 x)) :
    Calls Tryd.prog 96 #[.slice (some ⟨gx, 0, none⟩) 1 cx, .int .i64 (g : Int)] w fun e w' => ∃ b, e = .returned (.slice (some ⟨b, 0, none⟩) g g) ∧ w'.heap[b]? = some (.cells (List.replicate g (Value.int .u64 x)).toArray 22 (0, 0)) ∧ w.heap.size ≤ b ∧ Below w.heap.size w w' := by
  have HM := Lib.hid (mul_one' g hg w)
  obtain ⟨i0, hi, hz0, hz1, hz2⟩ := info_parts infoW
  have hmk : ∀ W : World, (Instr.makeSlice 60 (.int .i64 (g : Int)) (.int .i64 (g : Int))).run Tryd.prog W = .ok (.slice (some ⟨W.heap.size, 0, none⟩) g g) (W.alloc (.cells (reps (.int .u64 0) 0 g).toArray 22)) := fun W => by
    have := run_make (P := Tryd.prog) W 60 22 i0 (.int .u64 0) Tryd.underlying60 hi hz0 .i64 .i64 g g (by omega) (Int.le_refl _) (by rw [hz2]; omega) (by omega)
    rw [Int.toNat_natCast, hz1, madeW] at this
    exact this
  have HMK := Lib.hid hmk
  have hgx : gx < w.heap.size := cell_lt hx
  clear hmk hi hz0 hz1 hz2
  obtain ⟨s, hs⟩ : ∃ s, s = w.heap.size := ⟨_, rfl⟩
  have HS := Lib.hid hs
  clear hs
  have hd0 : decide ((g : Int) < 0) = false := decide_eq_false (by omega)
  have hmk := HMK.out w
  go_enter Tryd.func96, Tryd.ntmps96
  have hd1 : decide ((9223372036854775807 : Int) < (g : Int)) = false := decide_eq_false (by omega)
  have hc0 : ∀ j v, [Value.int .u64 x][j]? = some v → (w.alloc (.cells (reps (.int .u64 0) 0 g).toArray 22)).cell? (Addr.add ⟨gx, 0, none⟩ j) = some v := fun j v h => by
    match j with
    | 0 => simp at h; subst h; rw [Addr.add_lit]; exact low_cell ((Below.refl _ w).alloc (Nat.le_refl _) _) (Nat.le_refl _) hx
    | j + 1 => simp at h
  have HC0 := Lib.hid hc0
  have LA : Hid (Below s w (w.alloc (.cells (reps (.int .u64 0) 0 g).toArray 22))) := (Below.refl _ w).alloc (Nat.le_of_eq HS.out) _
  have hsz : s ≤ w.heap.size := Nat.le_of_eq HS.out
  clear hc0
  go_wp2_with (first
    | (go_at_call 111; refine HM.out.mono ?_; rintro e w' ⟨rfl, rfl⟩)
    | (with_reducible refine wpList_copy_splice rfl (.tmp 31) (.tmp 32) 60 60 rfl 22 Tryd.underlying60 sizeW (some ⟨w.heap.size, 0, none⟩) (some ⟨gx, 0, none⟩) g g 1 cx rfl rfl w.heap.size 0 (reps (.int .u64 0) 0 g) 22 (heap_alloc_new _ _) [.int .u64 x] ?c1 ?c2 ?c3 ?c4 s w LA.out hsz ?_))
  case c1 => show 1 = min 1 g; omega
  case c2 =>
    intro j v h
    match j with
    | 0 => simp at h; subst h; exact hx
    | j + 1 => simp at h
  case c3 => rw [reps_len]; simp; omega
  case c4 => intro v hv; rw [List.mem_singleton] at hv; subst hv; rfl
  intro w1 hw1 hb1
  have H1 : Hid (w1.heap[w.heap.size]? = some (.cells (reps (.int .u64 x) 1 (g - 1)).toArray 22 (0, 0))) := by have := hw1.out; rwa [splice0 _ _ _ h1] at this
  have HB1 := Lib.hid hb1
  clear hw1 hb1 hmk
  go_wp2
  go_loopw [8] (fun nv wr => ∃ n : Nat, 1 ≤ n ∧ n ≤ g ∧ nv = .int .i64 n ∧ wr.heap[w.heap.size]? = some (.cells (reps (.int .u64 x) n (g - n)).toArray 22 (0, 0)) ∧ Below s w wr) (fun nv _ => g - (intOf nv).toNat)
  case atStart => exact ⟨1, Nat.le_refl _, h1, rfl, H1.out, HB1.out⟩
  case round =>
    obtain ⟨n, hn1, hng, rfl, hrow, hB⟩ := hrel
    have HR := Lib.hid hrow
    have HB := Lib.hid hB
    clear hrow hB H1 HB1
    by_cases hlt : n < g
    · have hlt' : decide ((n : Int) < (g : Int)) = true := decide_eq_true (by omega)
      have hk : 1 ≤ Nat.min n (g - n) ∧ Nat.min n (g - n) ≤ g - n ∧ Nat.min n (g - n) ≤ n := by
        have := Nat.min_le_left n (g - n); have := Nat.min_le_right n (g - n)
        refine ⟨?_, by assumption, by assumption⟩
        show 1 ≤ min n (g - n); omega
      obtain ⟨k, hk0⟩ : ∃ k, k = Nat.min n (g - n) := ⟨_, rfl⟩
      rw [← hk0] at hk
      have HK := Lib.hid hk0
      clear hk0
      have hsrc : ∀ j v, (List.replicate k (Value.int .u64 x))[j]? = some v → wr.cell? (Addr.add ⟨w.heap.size, 0, none⟩ j) = some v := fun j v h => by
        rw [Addr.add_lit]
        have hj : j < k := by have := (List.getElem?_eq_some_iff.1 h).1; simpa using this
        rw [cell_of_row _ _ _ _ _ _ HR.out]
        have hn : j < n := by omega
        simp [reps, List.getElem?_append, hn, hj] at h ⊢
        exact h
      have HSRC : Hid (∀ j v, (List.replicate k (Value.int .u64 x))[j]? = some v → wr.drew.cell? (Addr.add ⟨w.heap.size, 0, none⟩ j) = some v) := hsrc
      have HBD : Hid (Below s w wr.drew) := HB.out.drew
      have hfit : n + (List.replicate k (Value.int .u64 x)).length ≤ (reps (.int .u64 x) n (g - n)).length := by rw [reps_len, List.length_replicate]; omega
      have hone : ∀ v ∈ List.replicate k (Value.int .u64 x), v.oneCell' = true := fun v hv => by rw [List.mem_replicate] at hv; rw [hv.2]; rfl
      have hlen : (List.replicate k (Value.int .u64 x)).length = Nat.min n (g - n) := by rw [List.length_replicate]; exact HK.out
      have HF := Lib.hid hfit
      have HO := Lib.hid hone
      have HL := Lib.hid hlen
      have hgk : goInt ((List.replicate k (Value.int .u64 x)).length : Int) = .int .i64 (k : Int) := by rw [List.length_replicate]; rfl
      have HGK := Lib.hid hgk
      obtain ⟨cs, hcs⟩ : ∃ cs, cs = List.replicate k (Value.int .u64 x) := ⟨_, rfl⟩
      rw [← hcs] at HSRC HF HO HL HGK
      have HCS := Lib.hid hcs
      have hwk : IntKind.i64.wrap ((n : Int) + (k : Int)) = ((n + k : Nat) : Int) := by rw [IntWalk.i64_in _ (by omega)]; omega
      have hn0 : ¬ (n = g) := by omega
      have hn0' : ¬ (g = n) := by omega
      clear hsrc hfit hone hlen hgk hcs
      go_upto_region 9 with fail
      go_region_law (refine step_copy_splice rfl (.tmp 41) (.tmp 44) 60 60 rfl 22 Tryd.underlying60 sizeW (some ⟨w.heap.size, n, none⟩) (some ⟨w.heap.size, 0, none⟩) (g - n) (g - n) n g (by simp [Act.eval, Act.put]) (by simp [Act.eval, Act.put]) w.heap.size n (reps (.int .u64 x) n (g - n)) 22 HR.out cs HL.out (fun _ => ⟨rfl, _, rfl, HSRC.out⟩) HF.out HO.out s w HBD.out hsz ?_; intro w2 hw2 hb2; rw [HGK.out])
      have HW2 : Hid (w2.heap[w.heap.size]? = some (.cells (reps (.int .u64 x) (n + k) (g - (n + k))).toArray 22 (0, 0))) := by
        have := hw2.out
        rw [HCS.out, reps_splice _ _ _ _ hk.2.1] at this
        rwa [show g - (n + k) = g - n - k by omega]
      have HB2 := Lib.hid hb2
      clear hw2 hb2
      clear hwk
      go_simp
      go_roundw
      case rel => exact ⟨.int .i64 ((n : Int) + (k : Int)), _, _, _, _, _, _, _, _, _, _, _, _, _, ⟨n + k, by omega, by omega, by go_num, HW2.out, HB2.out⟩, rfl⟩
      case measure => simp [intOf]; omega
    · have hlt' : decide ((n : Int) < (g : Int)) = false := decide_eq_false (by omega)
      go_wp2
      go_ret
      obtain rfl : n = g := by omega
      refine ⟨w.heap.size, rfl, ?_, Nat.le_refl _, by rw [← HS.out]; exact HB.out⟩
      have := HR.out
      rwa [reps, Nat.sub_self, List.replicate_zero, List.append_nil] at this
end Go.Proofs.YtcooapflofiolaaDoor
