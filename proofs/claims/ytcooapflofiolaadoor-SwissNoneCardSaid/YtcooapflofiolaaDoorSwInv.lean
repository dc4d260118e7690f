/- The map of groups: what always holds of it, and what it has. No program in sight. -/
import Derived.Test.YtcooapflofiolaaDoorSwPlain
namespace Go.Proofs.YtcooapflofiolaaDoor
open Go Go.RowKit
set_option linter.unusedSimpArgs false
set_option linter.unusedVariables false
set_option linter.unusedSectionVars false
set_option maxRecDepth 100000
variable {V : Type} [Inhabited V]

theorem pig (f : Nat → Nat) : ∀ n, (∀ i, i < n → f i < n) → (∀ i j, i < j → j < n → f i ≠ f j) → ∀ y, y < n → ∃ i, i < n ∧ f i = y
  | 0, _, _, y, hy => by omega
  | n + 1, hf, hi, y, hy => by
    have hinj : ∀ i j, i < n + 1 → j < n + 1 → f i = f j → i = j := fun i j h1 h2 e => by
      rcases Nat.lt_trichotomy i j with h | h | h
      · exact absurd e (hi i j h h2)
      · exact h
      · exact absurd e.symm (hi j i h h1)
    by_cases hyn : f n = y
    · exact ⟨n, by omega, hyn⟩
    have ih := pig (fun i => if f i = n then f n else f i) n (fun i h => by
        split
        · rename_i h1
          have h2 := hf n (by omega)
          have h3 : f n ≠ n := fun e => by have := hinj i n (by omega) (by omega) (h1.trans e.symm); omega
          omega
        · have h2 := hf i (by omega); omega)
      (fun i j h h2 => by
        intro e
        split at e <;> split at e
        · rename_i h3 h4; have := hinj i j (by omega) (by omega) (h3.trans h4.symm); omega
        · have := hinj n j (by omega) (by omega) e; omega
        · have := hinj i n (by omega) (by omega) e; omega
        · have := hinj i j (by omega) (by omega) e; omega)
    by_cases h : y = n
    · subst h
      have h2 := hf y (by omega)
      have h3 : f y < y := by omega
      obtain ⟨i, hi1, hi2⟩ := ih (f y) h3
      split at hi2
      · exact ⟨i, by omega, by assumption⟩
      · have := hinj i y (by omega) (by omega) hi2; omega
    · obtain ⟨i, hi1, hi2⟩ := ih y (by omega)
      split at hi2
      · exact absurd hi2 hyn
      · exact ⟨i, by omega, hi2⟩
theorem el_surj {h g : Nat} (hg : goodB (g : Int) = true) {j : Nat} (hj : j < g) : ∃ p, p < g ∧ el h g p = j :=
  pig (el h g) g (fun i hi => el_lt _ _ _ (by omega)) (fun i j hij hj => el_inj_good hg hij hj) j hj

/-- A slot with another byte and another pair. -/
def upd (m : Mp V) (x b : Nat) (s : ByteArray × V) (n t : Nat) : Mp V := ⟨m.ws.set (x / 8) (st (m.w (x / 8)) (x % 8) b), m.ss.set x s, n, t⟩
theorem putAt_upd (m : Mp V) {j i : Nat} (hi : i < 8) (what : Nat) (s : ByteArray × V) : putAt m j i what s = upd m (8 * j + i) what s (m.n + 1) (if m.c (8 * j + i) = 254 then m.tb - 1 else m.tb) := by
  unfold putAt upd Mp.c
  rw [show (8 * j + i) / 8 = j by omega, show (8 * j + i) % 8 = i by omega]
theorem delAt_upd (m : Mp V) (x : Nat) : delAt m x = upd m x (if empB m (x / 8) then 128 else 254) default (m.n - 1) (if empB m (x / 8) then m.tb else m.tb + 1) := rfl
theorem upd_len (m : Mp V) (x b : Nat) (s : ByteArray × V) (n t : Nat) : (upd m x b s n t).ws.length = m.ws.length := List.length_set
theorem upd_sl (m : Mp V) (x b : Nat) (s : ByteArray × V) (n t : Nat) : (upd m x b s n t).ss.length = m.ss.length := List.length_set
theorem upd_w (m : Mp V) {x b : Nat} (s : ByteArray × V) (n t : Nat) (hx : x < 8 * m.ws.length) (j : Nat) : (upd m x b s n t).w j = if j = x / 8 then st (m.w j) (x % 8) b else m.w j := by
  unfold Mp.w upd
  split
  · rename_i h; subst h
    rw [List.getD_eq_getElem?_getD, List.getElem?_set_self (by omega)]; rfl
  · rename_i h
    rw [List.getD_eq_getElem?_getD, List.getElem?_set_ne (fun e => h e.symm), ← List.getD_eq_getElem?_getD]
theorem upd_c (m : Mp V) {x b : Nat} (s : ByteArray × V) (n t : Nat) (hx : x < 8 * m.ws.length) (hb : b < 256) (y : Nat) : (upd m x b s n t).c y = if y = x then b else m.c y := by
  unfold Mp.c
  rw [upd_w m s n t hx]
  by_cases h : y = x
  · subst h; rw [if_pos rfl, if_pos rfl, gt_st _ (Nat.mod_lt _ (by decide)) hb]
  · rw [if_neg h]
    by_cases h2 : y / 8 = x / 8
    · rw [if_pos h2, gt_st_ne _ hb (by omega)]
    · rw [if_neg h2]
theorem upd_s (m : Mp V) {x : Nat} (b : Nat) (s : ByteArray × V) (n t : Nat) (hx : x < m.ss.length) (y : Nat) : (upd m x b s n t).s y = if y = x then s else m.s y := by
  unfold Mp.s upd
  by_cases h : y = x
  · subst h; rw [if_pos rfl, List.getD_eq_getElem?_getD, List.getElem?_set_self hx]; rfl
  · rw [if_neg h, List.getD_eq_getElem?_getD, List.getElem?_set_ne (fun e => h e.symm), ← List.getD_eq_getElem?_getD]
theorem c_at (m : Mp V) (j : Nat) {i : Nat} (hi : i < 8) : m.c (8 * j + i) = gt (m.w j) i := by
  unfold Mp.c; rw [show (8 * j + i) / 8 = j by omega, show (8 * j + i) % 8 = i by omega]
theorem emp_iff (m : Mp V) (j : Nat) : empB m j = true ↔ ∃ x, x / 8 = j ∧ m.c x = 128 := by
  unfold empB
  rw [List.any_eq_true]
  constructor
  · rintro ⟨i, hi, h⟩
    rw [List.mem_range] at hi
    exact ⟨8 * j + i, by omega, by rw [c_at m j hi]; simpa using h⟩
  · rintro ⟨x, rfl, h⟩
    exact ⟨x % 8, by rw [List.mem_range]; omega, by simpa [Mp.c] using h⟩
theorem emp_false {m : Mp V} {j : Nat} (h : empB m j = false) {x : Nat} (hx : x / 8 = j) : m.c x ≠ 128 := fun e => by
  have := (emp_iff m j).2 ⟨x, hx, e⟩
  rw [h] at this; cases this
theorem free_none {m : Mp V} {j : Nat} (h : freeAt m j = none) {x : Nat} (hx : x / 8 = j) : m.c x ≠ 128 ∧ m.c x ≠ 254 := by
  unfold freeAt at h
  rw [List.find?_eq_none] at h
  have h1 := h (x % 8) (by rw [List.mem_range]; omega)
  unfold Mp.c; rw [hx]
  simpa using h1
theorem free_some {m : Mp V} {j i : Nat} (h : freeAt m j = some i) : i < 8 ∧ (m.c (8 * j + i) = 128 ∨ m.c (8 * j + i) = 254) := by
  unfold freeAt at h
  have h1 := List.mem_of_find?_eq_some h
  have h2 := List.find?_some h
  rw [List.mem_range] at h1
  rw [c_at m j h1]
  exact ⟨h1, by simpa using h2⟩

/-- What always holds of a map. -/
structure MInv (H : ByteArray → Nat) (m : Mp V) : Prop where
  gd : goodB (m.ws.length : Int) = true
  sl : m.ss.length = 8 * m.ws.length
  wl : ∀ j, m.w j < 18446744073709551616
  ct : ∀ i, i < 8 * m.ws.length → m.c i < 128 ∨ m.c i = 128 ∨ m.c i = 254
  wh : ∀ i, i < 8 * m.ws.length → m.c i < 128 → m.c i = H (m.s i).1 % 128
  pr : ∀ i, i < 8 * m.ws.length → m.c i < 128 → ∃ p, p < m.ws.length ∧ el (H (m.s i).1 / 128) m.ws.length p = i / 8 ∧ ∀ q, q < p → empB m (el (H (m.s i).1 / 128) m.ws.length q) = false
  un : ∀ i j, i < 8 * m.ws.length → j < 8 * m.ws.length → m.c i < 128 → m.c j < 128 → (m.s i).1 = (m.s j).1 → i = j
  cn : m.n = cnt (fun i => decide (m.c i < 128)) (8 * m.ws.length)
  ctb : m.tb = cnt (fun i => m.c i == 254) (8 * m.ws.length)
  ld : m.n + m.tb ≤ 7 * m.ws.length
  mx : m.n ≤ 2000
def Has (m : Mp V) (k : ByteArray) (v : V) : Prop := ∃ i, i < 8 * m.ws.length ∧ m.c i < 128 ∧ m.s i = (k, v)
section
variable {H : ByteArray → Nat} {m : Mp V}
theorem MInv.len (h : MInv H m) : 1 ≤ m.ws.length ∧ m.ws.length ≤ 1024 := by have := goodB_bounds h.gd; omega
theorem grps_getD (h g q : Nat) (hq : q < g) : (grps h g)[q]? = some (el h g q) := by simp [grps, hq]
theorem grps_len (h g : Nat) : (grps h g).length = g := by simp [grps]

/-! ### What is found -/
theorem findL_some {what : Nat} {key : ByteArray} : ∀ {l : List Nat} {x : Nat}, findL m what key l = some x → x / 8 ∈ l ∧ m.c x = what ∧ (m.s x).1 = key
  | [], x, h => by simp [findL] at h
  | j :: r, x, h => by
    rw [findL] at h
    cases hg : inG m what key j with
    | some i =>
      rw [hg] at h
      have h1 := List.mem_of_find?_eq_some hg
      have h2 := List.find?_some hg
      rw [List.mem_range] at h1
      simp only [Option.some.injEq] at h
      subst h
      simp only [hit, Bool.and_eq_true, beq_iff_eq, decide_eq_true_eq] at h2
      exact ⟨by rw [show (8 * j + i) / 8 = j by omega]; simp, by rw [c_at m j h1]; exact h2.1, h2.2⟩
    | none =>
      rw [hg] at h
      cases he : empB m j with
      | true => rw [he] at h; simp at h
      | false =>
        rw [he] at h
        obtain ⟨a, b, c⟩ := findL_some (l := r) (x := x) (by simpa using h)
        exact ⟨by simp [a], b, c⟩
theorem findL_hit {what : Nat} {key : ByteArray} {x : Nat} (hx : m.c x = what) (hk : (m.s x).1 = key) : ∀ {l : List Nat} {p : Nat}, l[p]? = some (x / 8) → (∀ q j, q < p → l[q]? = some j → empB m j = false) → findL m what key l ≠ none
  | [], p, h, _ => by simp at h
  | j :: r, p, h, he => by
    rw [findL]
    cases hg : inG m what key j with
    | some i => simp
    | none =>
      cases p with
      | zero =>
        simp only [List.getElem?_cons_zero, Option.some.injEq] at h
        subst h
        unfold inG at hg
        rw [List.find?_eq_none] at hg
        have := hg (x % 8) (by rw [List.mem_range]; omega)
        rw [hit, show 8 * (x / 8) + x % 8 = x by omega] at this
        simp only [Bool.and_eq_true, beq_iff_eq, decide_eq_true_eq] at this
        exact absurd ⟨hx, hk⟩ this
      | succ p =>
        have h0 := he 0 j (by omega) (by simp)
        rw [h0]
        simp only [List.getElem?_cons_succ] at h
        exact findL_hit hx hk h (fun q j hq hj => he (q + 1) j (by omega) (by simpa using hj))
theorem find_some (I : MInv H m) {key : ByteArray} {x : Nat} (h : find H m key = some x) : x < 8 * m.ws.length ∧ m.c x < 128 ∧ (m.s x).1 = key := by
  obtain ⟨a, b, c⟩ := findL_some h
  refine ⟨?_, by rw [b]; exact Nat.mod_lt _ (by decide), c⟩
  obtain ⟨p, hp, e⟩ := List.mem_map.1 a
  have := el_lt (H key / 128) m.ws.length p (by have := I.len; omega)
  omega
theorem find_none (I : MInv H m) {key : ByteArray} (h : find H m key = none) : ∀ i, i < 8 * m.ws.length → m.c i < 128 → (m.s i).1 ≠ key := by
  intro i hi hc hk
  obtain ⟨p, hp, e, hq⟩ := I.pr i hi hc
  have hw := I.wh i hi hc
  rw [hk] at e hq hw
  refine findL_hit (m := m) hw hk (l := grps (H key / 128) m.ws.length) (p := p) (by rw [grps_getD _ _ _ hp, e]) (fun q j hq' hj => ?_) h
  rw [grps_getD _ _ _ (by omega)] at hj
  injection hj with hj
  rw [← hj]; exact hq q hq'
theorem find_has (I : MInv H m) {key : ByteArray} : (∃ v, Has m key v) ↔ find H m key ≠ none := by
  constructor
  · rintro ⟨v, i, hi, hc, hs⟩ h
    exact find_none I h i hi hc (by rw [hs])
  · intro h
    cases hf : find H m key with
    | none => exact absurd hf h
    | some x =>
      obtain ⟨a, b, c⟩ := find_some I hf
      exact ⟨(m.s x).2, x, a, b, by rw [← c]⟩
theorem find_val (I : MInv H m) {key : ByteArray} {x : Nat} (h : find H m key = some x) {v : V} : Has m key v ↔ v = (m.s x).2 := by
  obtain ⟨a, b, c⟩ := find_some I h
  constructor
  · rintro ⟨i, hi, hc, hs⟩
    have := I.un i x hi a hc b (by rw [hs, c])
    subst this; rw [hs]
  · rintro rfl
    exact ⟨x, a, b, by rw [← c]⟩
theorem Has.one (I : MInv H m) {k : ByteArray} {v v' : V} (h : Has m k v) (h' : Has m k v') : v = v' := by
  obtain ⟨i, hi, hc, hs⟩ := h
  obtain ⟨j, hj, hcj, hsj⟩ := h'
  have := I.un i j hi hj hc hcj (by rw [hs, hsj])
  subst this
  rw [hs] at hsj; injection hsj

/-! ### A key goes in -/
theorem layL_at {what : Nat} {s : ByteArray × V} : ∀ {l : List Nat}, (∃ j, j ∈ l ∧ freeAt m j ≠ none) → ∃ (p j i : Nat), l[p]? = some j ∧ freeAt m j = some i ∧ (∀ q j', q < p → l[q]? = some j' → freeAt m j' = none) ∧ layL m what s l = putAt m j i what s
  | [], h => by obtain ⟨j, hj, _⟩ := h; cases hj
  | j :: r, h => by
    cases hf : freeAt m j with
    | some i => exact ⟨0, j, i, by simp, hf, fun q _ hq => by omega, by rw [layL, hf]⟩
    | none =>
      obtain ⟨j', hj, hn⟩ := h
      have hr : ∃ j, j ∈ r ∧ freeAt m j ≠ none := by
        rcases List.mem_cons.1 hj with rfl | h1
        · exact absurd hf hn
        · exact ⟨j', h1, hn⟩
      obtain ⟨p, a, i, h1, h2, h3, h4⟩ := layL_at hr
      refine ⟨p + 1, a, i, by simpa using h1, h2, fun q b hq hb => ?_, by rw [layL, hf]; exact h4⟩
      cases q with
      | zero => simp only [List.getElem?_cons_zero, Option.some.injEq] at hb; rw [← hb]; exact hf
      | succ q => exact h3 q b (by omega) (by simpa using hb)
theorem has_empty (I : MInv H m) (hl : m.n + m.tb < 8 * m.ws.length) : ∃ x, x < 8 * m.ws.length ∧ m.c x = 128 := by
  have h1 : cnt (fun i => decide (m.c i < 128) || m.c i == 254) (8 * m.ws.length) = m.n + m.tb := by
    rw [I.cn, I.ctb]
    refine cnt_add fun i hi => ?_
    by_cases h : m.c i < 128
    · simp [h, show ¬ m.c i = 254 by omega]
    · simp [h]
  have h2 : cnt (fun _ => true) (8 * m.ws.length) = 8 * m.ws.length := by
    have : ∀ n, cnt (fun _ => true) n = n := fun n => by induction n with
      | zero => rfl
      | succ n ih => rw [cnt, ih]; rfl
    exact this _
  have h3 : cnt (fun _ => true) (8 * m.ws.length) = cnt (fun i => decide (m.c i < 128) || m.c i == 254) (8 * m.ws.length) + cnt (fun i => m.c i == 128) (8 * m.ws.length) := by
    refine cnt_add fun i hi => ?_
    rcases I.ct i hi with h | h | h <;> simp [h]
    omega
  obtain ⟨x, hx, hc⟩ := cnt_pos (p := fun i => m.c i == 128) (n := 8 * m.ws.length) (by omega)
  exact ⟨x, hx, by simpa using hc⟩
theorem lay_at (I : MInv H m) {s : ByteArray × V} (hl : m.n + m.tb < 7 * m.ws.length) :
    ∃ p x, p < m.ws.length ∧ x < 8 * m.ws.length ∧ el (H s.1 / 128) m.ws.length p = x / 8 ∧ (m.c x = 128 ∨ m.c x = 254) ∧ (∀ q, q < p → ∀ y, y / 8 = el (H s.1 / 128) m.ws.length q → m.c y ≠ 128) ∧
      lay H m s = upd m x (H s.1 % 128) s (m.n + 1) (if m.c x = 254 then m.tb - 1 else m.tb) := by
  obtain ⟨y, hy, hc⟩ := has_empty I (by omega)
  obtain ⟨p0, hp0, e0⟩ := el_surj I.gd (h := H s.1 / 128) (j := y / 8) (by omega)
  obtain ⟨p, j, i, h1, h2, h3, h4⟩ := layL_at (m := m) (what := H s.1 % 128) (s := s) (l := grps (H s.1 / 128) m.ws.length) ⟨y / 8, List.mem_map.2 ⟨p0, by rw [List.mem_range]; exact hp0, e0⟩, fun e => (free_none e rfl).1 hc⟩
  have hp : p < m.ws.length := by have := (List.getElem?_eq_some_iff.1 h1).1; rwa [grps_len] at this
  rw [grps_getD _ _ _ hp] at h1
  injection h1 with h1
  have hj := el_lt (H s.1 / 128) m.ws.length p (by omega)
  obtain ⟨hi, hf⟩ := free_some h2
  refine ⟨p, 8 * j + i, hp, by omega, by omega, hf, fun q hq y hy => (free_none (h3 q _ hq (grps_getD _ _ _ (by omega))) hy).1, ?_⟩
  rw [← putAt_upd m hi]; exact h4
theorem Has.upd {x b : Nat} {s : ByteArray × V} {n t : Nat} (hx : x < 8 * m.ws.length) (hsl : m.ss.length = 8 * m.ws.length) (hb : b < 256) (k : ByteArray) (v : V) :
    Has (upd m x b s n t) k v ↔ (b < 128 ∧ s = (k, v)) ∨ (∃ i, i ≠ x ∧ i < 8 * m.ws.length ∧ m.c i < 128 ∧ m.s i = (k, v)) := by
  unfold Has
  rw [upd_len]
  constructor
  · rintro ⟨i, hi, hc, hs⟩
    rw [upd_c m s n t hx hb] at hc
    rw [upd_s m b s n t (by omega)] at hs
    by_cases e : i = x
    · subst e; rw [if_pos rfl] at hc hs; exact .inl ⟨hc, hs⟩
    · rw [if_neg e] at hc hs; exact .inr ⟨i, e, hi, hc, hs⟩
  · rintro (⟨h1, h2⟩ | ⟨i, e, hi, hc, hs⟩)
    · exact ⟨x, hx, by rw [upd_c m s n t hx hb, if_pos rfl]; exact h1, by rw [upd_s m b s n t (by omega), if_pos rfl]; exact h2⟩
    · exact ⟨i, hi, by rw [upd_c m s n t hx hb, if_neg e]; exact hc, by rw [upd_s m b s n t (by omega), if_neg e]; exact hs⟩
theorem emp_upd {x b : Nat} {s : ByteArray × V} {n t : Nat} (hx : x < 8 * m.ws.length) (hb : b < 256) {j : Nat} (h : empB m j = false) (h2 : b ≠ 128 ∨ x / 8 ≠ j) : empB (upd m x b s n t) j = false := by
  cases he : empB (upd m x b s n t) j with
  | false => rfl
  | true =>
    obtain ⟨y, hy, hc⟩ := (emp_iff _ _).1 he
    rw [upd_c m s n t hx hb] at hc
    by_cases e : y = x
    · subst e; rw [if_pos rfl] at hc; rcases h2 with h2 | h2
      · exact absurd hc h2
      · exact absurd hy h2
    · rw [if_neg e] at hc; exact absurd hc (emp_false h hy)
theorem upd_wl (I : MInv H m) {x b : Nat} {s : ByteArray × V} {n t : Nat} (hx : x < 8 * m.ws.length) (hb : b < 256) (j : Nat) : (upd m x b s n t).w j < 18446744073709551616 := by
  rw [upd_w m s n t hx]; split
  · exact st_lt _ _ hb
  · exact I.wl j
theorem lay_inv (I : MInv H m) {s : ByteArray × V} (hk : ∀ i, i < 8 * m.ws.length → m.c i < 128 → (m.s i).1 ≠ s.1) (hl : m.n + m.tb < 7 * m.ws.length) (hn : m.n < 2000) :
    MInv H (lay H m s) ∧ (lay H m s).n = m.n + 1 ∧ (lay H m s).ws.length = m.ws.length ∧ (lay H m s).tb ≤ m.tb ∧ ∀ k v, Has (lay H m s) k v ↔ s = (k, v) ∨ Has m k v := by
  obtain ⟨p, x, hp, hx, he, hc, hq, e⟩ := lay_at I (s := s) hl
  have hw : H s.1 % 128 < 128 := Nat.mod_lt _ (by decide)
  have hb : H s.1 % 128 < 256 := by omega
  have hsl := I.sl
  generalize ht : (if m.c x = 254 then m.tb - 1 else m.tb) = t at e
  have h254 : m.c x = 254 → 0 < m.tb := fun h => by
    have := cnt_set (p := fun i => m.c i == 254) (q := fun i => if i = x then false else m.c i == 254) hx (fun j hj hne => by simp [hne])
    rw [I.ctb]; simp [h] at this; omega
  have hle : t ≤ m.tb := by rw [← ht]; split <;> omega
  have C := upd_c m s (m.n + 1) t hx hb
  have S := upd_s m (H s.1 % 128) s (m.n + 1) t (x := x) (by omega)
  have E : ∀ j, empB m j = false → empB (upd m x (H s.1 % 128) s (m.n + 1) t) j = false := fun j h => emp_upd hx hb h (.inl (by omega))
  rw [e]
  refine ⟨⟨by rw [upd_len]; exact I.gd, by rw [upd_len, upd_sl]; exact hsl, fun j => upd_wl I hx hb j, ?_, ?_, ?_, ?_, ?_, ?_, ?_, ?_⟩, rfl, upd_len _ _ _ _ _ _, hle, fun k v => ?_⟩
  · intro i hi
    rw [upd_len] at hi
    rw [C]; split
    · exact .inl hw
    · exact I.ct i hi
  · intro i hi hci
    rw [upd_len] at hi
    rw [C] at hci ⊢
    rw [S]
    by_cases h : i = x
    · rw [if_pos h, if_pos h]
    · rw [if_neg h] at hci ⊢; rw [if_neg h]; exact I.wh i hi hci
  · intro i hi hci
    rw [upd_len] at hi
    rw [C] at hci
    rw [S, upd_len]
    by_cases h : i = x
    · rw [if_pos h]; subst h
      exact ⟨p, hp, he, fun q hq' => E _ (by
        cases hh : empB m (el (H s.1 / 128) m.ws.length q) with
        | false => rfl
        | true => obtain ⟨y, hy, hcy⟩ := (emp_iff _ _).1 hh; exact absurd hcy (hq q hq' y hy))⟩
    · rw [if_neg h] at hci ⊢
      obtain ⟨p', h1, h2, h3⟩ := I.pr i hi hci
      exact ⟨p', h1, h2, fun q hq' => E _ (h3 q hq')⟩
  · intro i j hi hj hci hcj hk'
    rw [upd_len] at hi hj
    rw [C] at hci hcj
    rw [S, S] at hk'
    by_cases h : i = x <;> by_cases h' : j = x
    · rw [h, h']
    · rw [if_pos h, if_neg h'] at hk'; rw [if_neg h'] at hcj
      exact absurd hk'.symm (hk j hj hcj)
    · rw [if_neg h, if_pos h'] at hk'; rw [if_neg h] at hci
      exact absurd hk' (hk i hi hci)
    · rw [if_neg h, if_neg h'] at hk'; rw [if_neg h] at hci; rw [if_neg h'] at hcj
      exact I.un i j hi hj hci hcj hk'
  · rw [upd_len]
    have := cnt_set (p := fun i => decide (m.c i < 128)) (q := fun i => decide ((upd m x (H s.1 % 128) s (m.n + 1) t).c i < 128)) hx (fun j hj hne => by simp only [C, if_neg hne])
    simp only [C, if_pos] at this
    have h1 : decide (m.c x < 128) = false := decide_eq_false (by omega)
    have h2 : decide (H s.1 % 128 < 128) = true := decide_eq_true hw
    rw [h1, h2] at this
    have := I.cn
    show m.n + 1 = _
    simp only [C]
    simp at *; omega
  · rw [upd_len]
    have := cnt_set (p := fun i => m.c i == 254) (q := fun i => (upd m x (H s.1 % 128) s (m.n + 1) t).c i == 254) hx (fun j hj hne => by simp only [C, if_neg hne])
    simp only [C, if_pos] at this
    have h2 : (H s.1 % 128 == 254) = false := by simp; omega
    rw [h2] at this
    have h3 := I.ctb
    show t = _
    simp only [C]
    rw [← ht]
    rcases hc with h | h
    · rw [h] at this; simp [h] at *; omega
    · rw [h] at this; simp [h] at *; omega
  · rw [upd_len]; have := I.ld
    show m.n + 1 + t ≤ _; omega
  · show m.n + 1 ≤ _; omega
  · rw [Has.upd hx hsl hb]
    constructor
    · rintro (⟨_, h⟩ | ⟨i, _, h1, h2, h3⟩)
      · exact .inl h
      · exact .inr ⟨i, h1, h2, h3⟩
    · rintro (h | ⟨i, h1, h2, h3⟩)
      · exact .inl ⟨hw, h⟩
      · exact .inr ⟨i, fun e => by subst e; omega, h1, h2, h3⟩

/-! ### All keys go into an empty map -/
theorem empty_w (g j : Nat) : (empty g : Mp V).w j = noneW := by
  unfold Mp.w empty
  rw [List.getD_eq_getElem?_getD]
  simp only [List.getElem?_replicate]
  split <;> rfl
theorem gt_none : ∀ i : Fin 8, gt noneW i.val = 128 := by decide +kernel
theorem empty_c (g y : Nat) : (empty g : Mp V).c y = 128 := by
  unfold Mp.c; rw [empty_w]; exact gt_none ⟨y % 8, Nat.mod_lt _ (by decide)⟩
theorem empty_inv {g : Nat} (hg : goodB (g : Int) = true) : MInv H (empty g : Mp V) := by
  have hl : (empty g : Mp V).ws.length = g := List.length_replicate
  refine ⟨by rw [hl]; exact hg, by rw [hl]; exact List.length_replicate, fun j => by rw [empty_w]; decide, fun i _ => .inr (.inl (empty_c _ _)), fun i _ h => ?_, fun i _ h => ?_, fun i j _ _ h => ?_, ?_, ?_, ?_, Nat.zero_le _⟩
  · rw [empty_c] at h; omega
  · rw [empty_c] at h; omega
  · rw [empty_c] at h; omega
  · exact (cnt_zero fun i _ => by rw [empty_c]; rfl).symm
  · exact (cnt_zero fun i _ => by rw [empty_c]; rfl).symm
  · exact Nat.zero_le _
theorem has_empty_not (g : Nat) (k : ByteArray) (v : V) : ¬ Has (empty g) k v := by
  rintro ⟨i, _, h, _⟩; rw [empty_c] at h; omega
theorem lays_inv : ∀ {l : List (ByteArray × V)} {m : Mp V}, MInv H m → l.Pairwise (fun a b => a.1 ≠ b.1) → (∀ s, s ∈ l → ∀ v, ¬ Has m s.1 v) → m.tb = 0 → m.n + l.length ≤ 7 * m.ws.length → m.n + l.length ≤ 2000 →
    MInv H (l.foldl (lay H) m) ∧ (l.foldl (lay H) m).n = m.n + l.length ∧ (l.foldl (lay H) m).ws.length = m.ws.length ∧ (l.foldl (lay H) m).tb = 0 ∧ ∀ k v, Has (l.foldl (lay H) m) k v ↔ (k, v) ∈ l ∨ Has m k v
  | [], m, I, _, _, ht, _, _ => ⟨I, rfl, rfl, ht, fun k v => by simp⟩
  | s :: r, m, I, hp, hd, ht, h1, h2 => by
    rw [List.length_cons] at h1 h2
    obtain ⟨a, b, c, d, e⟩ := lay_inv I (s := s) (fun i hi hc hk => hd s (by simp) (m.s i).2 ⟨i, hi, hc, by rw [← hk]⟩) (by omega) (by omega)
    rw [List.pairwise_cons] at hp
    obtain ⟨a', b', c', d', e'⟩ := lays_inv (l := r) a hp.2 (fun t ht v hv => by
      rcases (e _ _).1 hv with h | h
      · exact hp.1 t ht (by rw [h])
      · exact hd t (by simp [ht]) v h) (by omega) (by omega) (by omega)
    rw [List.foldl_cons]
    refine ⟨a', by rw [b', b, List.length_cons]; omega, by rw [c', c], d', fun k v => ?_⟩
    rw [e', e, List.mem_cons]
    constructor
    · rintro (h | h | h)
      · exact .inl (.inr h)
      · exact .inl (.inl h.symm)
      · exact .inr h
    · rintro ((h | h) | h)
      · exact .inr (.inl h.symm)
      · exact .inl h
      · exact .inr (.inr h)
theorem full_len (I : MInv H m) : (fullL m).length = m.n := by
  unfold fullL fullI; rw [List.length_map, cnt_filter, I.cn]
theorem mem_full {k : ByteArray} {v : V} : (k, v) ∈ fullL m ↔ Has m k v := by
  unfold fullL fullI Has
  simp only [List.mem_map, List.mem_filter, List.mem_range, decide_eq_true_eq]
  constructor
  · rintro ⟨i, ⟨h1, h2⟩, h3⟩; exact ⟨i, h1, h2, h3⟩
  · rintro ⟨i, h1, h2, h3⟩; exact ⟨i, ⟨h1, h2⟩, h3⟩
theorem full_pair (I : MInv H m) : (fullL m).Pairwise (fun a b => a.1 ≠ b.1) := by
  unfold fullL fullI
  rw [List.pairwise_map]
  have h : ((List.range (8 * m.ws.length)).filter fun i => decide (m.c i < 128)).Pairwise (· < ·) := List.Pairwise.filter _ List.pairwise_lt_range
  refine h.imp_of_mem fun {a b} ha hb hab e => ?_
  simp only [List.mem_filter, List.mem_range, decide_eq_true_eq] at ha hb
  have := I.un a b ha.1 hb.1 ha.2 hb.2 e
  omega
theorem reG_good (I : MInv H m) (hf : 7 * m.ws.length ≤ m.n + m.tb) (hn : m.n < 2000) : goodB (reG m : Int) = true ∧ m.n < 7 * reG m ∧ m.ws.length ≤ reG m := by
  have hl := I.len
  have hld := I.ld
  unfold reG
  split
  · rename_i h
    have h5 : m.ws.length < 572 := by rcases h with h | h <;> omega
    obtain ⟨k, hk, e⟩ := goodB_of I.gd
    have e' : m.ws.length = 2 ^ k := by omega
    have hk9 : k ≤ 9 := by
      rcases Nat.lt_or_ge 9 k with h9 | h9
      · obtain rfl : k = 10 := by omega
        rw [e'] at h5; simp at h5
      · exact h9
    refine ⟨?_, by omega, by omega⟩
    rw [e', ← Nat.pow_succ]
    exact goodB_pow ⟨k + 1, by omega⟩
  · rename_i h
    exact ⟨I.gd, by omega, Nat.le_refl _⟩
theorem rehash_inv (I : MInv H m) (hf : 7 * m.ws.length ≤ m.n + m.tb) (hn : m.n < 2000) :
    MInv H (rehash H m) ∧ (rehash H m).n = m.n ∧ (rehash H m).ws.length = reG m ∧ (rehash H m).tb = 0 ∧ ∀ k v, Has (rehash H m) k v ↔ Has m k v := by
  obtain ⟨h1, h2, h3⟩ := reG_good I hf hn
  have hl : (empty (reG m) : Mp V).ws.length = reG m := List.length_replicate
  have hfl := full_len I
  obtain ⟨a, b, c, d, e⟩ := lays_inv (H := H) (l := fullL m) (empty_inv h1) (full_pair I) (fun s _ v => has_empty_not _ _ _) rfl (by rw [hl, hfl]; show 0 + m.n ≤ _; omega) (by rw [hfl]; show 0 + m.n ≤ _; omega)
  refine ⟨a, by unfold rehash; rw [b, hfl]; exact Nat.zero_add _, by unfold rehash; rw [c, hl], d, fun k v => ?_⟩
  unfold rehash
  rw [e, mem_full]
  exact ⟨fun h => h.resolve_right (has_empty_not _ _ _), .inl⟩
theorem room_inv (I : MInv H m) (hn : m.n < 2000) :
    MInv H (room H m) ∧ (room H m).n = m.n ∧ (room H m).n + (room H m).tb < 7 * (room H m).ws.length ∧ (∀ k v, Has (room H m) k v ↔ Has m k v) ∧ m.ws.length ≤ (room H m).ws.length ∧ (m.tb = 0 → (room H m).tb = 0 ∧ ((room H m).ws.length = m.ws.length ∨ (room H m).ws.length = 2 * m.ws.length ∧ m.n = 7 * m.ws.length)) := by
  unfold room
  split
  · rename_i h
    obtain ⟨h1, h2, h3⟩ := reG_good I h hn
    obtain ⟨a, b, c, d, e⟩ := rehash_inv I h hn
    refine ⟨a, b, by rw [b, c, d]; omega, e, by rw [c]; exact h3, fun ht => ⟨d, .inr ⟨?_, ?_⟩⟩⟩
    · rw [c, reG, if_pos (.inl ht)]; omega
    · have := I.ld; omega
  · rename_i h
    exact ⟨I, rfl, by omega, fun _ _ => Iff.rfl, Nat.le_refl _, fun ht => ⟨ht, .inl rfl⟩⟩

/-! ### Put and Delete -/
theorem put_some (I : MInv H m) {key : ByteArray} {v : V} {x : Nat} (hf : find H m key = some x) :
    MInv H (put H m key v) ∧ (put H m key v).n = m.n ∧ (put H m key v).ws = m.ws ∧ (put H m key v).tb = m.tb ∧ ∀ k u, Has (put H m key v) k u ↔ (if k = key then u = v else Has m k u) := by
  obtain ⟨hx, hc, hk⟩ := find_some I hf
  have hsl := I.sl
  have e : put H m key v = { m with ss := m.ss.set x (key, v) } := by unfold put; rw [hf]
  rw [e]
  have S : ∀ y, Mp.s { m with ss := m.ss.set x (key, v) } y = if y = x then (key, v) else m.s y := by
    intro y
    unfold Mp.s
    by_cases h : y = x
    · subst h; rw [if_pos rfl, List.getD_eq_getElem?_getD, List.getElem?_set_self (by omega)]; rfl
    · rw [if_neg h, List.getD_eq_getElem?_getD, List.getElem?_set_ne (fun e => h e.symm), ← List.getD_eq_getElem?_getD]
  have S1 : ∀ y, (Mp.s { m with ss := m.ss.set x (key, v) } y).1 = (m.s y).1 := by
    intro y; rw [S]; split
    · rename_i h; rw [h, hk]
    · rfl
  refine ⟨⟨I.gd, by show (m.ss.set x (key, v)).length = _; rw [List.length_set]; exact hsl, I.wl, I.ct, fun i hi h => by rw [S1]; exact I.wh i hi h, fun i hi h => by rw [S1]; exact I.pr i hi h, fun i j hi hj h1 h2 h3 => by rw [S1, S1] at h3; exact I.un i j hi hj h1 h2 h3, I.cn, I.ctb, I.ld, I.mx⟩, rfl, rfl, rfl, fun k u => ?_⟩
  constructor
  · rintro ⟨i, hi, hci, hs⟩
    rw [S] at hs
    by_cases h : i = x
    · rw [if_pos h] at hs; injection hs with h1 h2; rw [if_pos h1.symm, h2]
    · rw [if_neg h] at hs
      rw [if_neg (fun e => h (I.un i x hi hx hci hc (by rw [hs, hk, e])))]
      exact ⟨i, hi, hci, hs⟩
  · intro h
    split at h
    · rename_i e; subst e; subst h
      exact ⟨x, hx, hc, by rw [S, if_pos rfl]⟩
    · rename_i e
      obtain ⟨i, hi, hci, hs⟩ := h
      exact ⟨i, hi, hci, by rw [S, if_neg (fun e' => e (by subst e'; rw [hs] at hk; exact hk))]; exact hs⟩
theorem put_none (I : MInv H m) {key : ByteArray} {v : V} (hf : find H m key = none) (hn : m.n < 2000) :
    MInv H (put H m key v) ∧ (put H m key v).n = m.n + 1 ∧ (put H m key v).ws.length = (room H m).ws.length ∧ (put H m key v).tb ≤ (room H m).tb ∧ (∀ k u, Has (put H m key v) k u ↔ (if k = key then u = v else Has m k u)) ∧ put H m key v = lay H (room H m) (key, v) := by
  have e : put H m key v = lay H (room H m) (key, v) := by unfold put; rw [hf]; exact if_neg (by omega)
  obtain ⟨a, b, c, d, _⟩ := room_inv I hn
  have hno : ∀ u, ¬ Has m key u := fun u hu => (find_has I).1 ⟨u, hu⟩ hf
  obtain ⟨a', b', c', d', e'⟩ := lay_inv a (s := (key, v)) (fun i hi hc hk => hno (Mp.s (room H m) i).2 ((d _ _).1 ⟨i, hi, hc, by rw [← show ((room H m).s i).1 = key from hk]⟩)) c (by omega)
  rw [e]
  refine ⟨a', by omega, c', d', fun k u => ?_, rfl⟩
  rw [e', d]
  split
  · rename_i h; subst h
    constructor
    · rintro (h | h)
      · injection h with _ h; exact h.symm
      · exact absurd h (hno u)
    · rintro rfl; exact .inl rfl
  · rename_i h
    exact ⟨fun h1 => h1.resolve_left fun e => h (by injection e with e; exact e.symm), .inr⟩
theorem put_full {key : ByteArray} {v : V} (hf : find H m key = none) (hn : 2000 ≤ m.n) : put H m key v = m := by
  unfold put; rw [hf]; exact if_pos hn
theorem put_inv (I : MInv H m) (key : ByteArray) (v : V) : MInv H (put H m key v) := by
  cases hf : find H m key with
  | some x => exact (put_some I hf).1
  | none =>
    by_cases hn : m.n < 2000
    · exact (put_none I hf hn).1
    · rw [put_full hf (by omega)]; exact I
theorem del_none {key : ByteArray} (hf : find H m key = none) : del H m key = m := by unfold del; rw [hf]
theorem del_some (I : MInv H m) {key : ByteArray} {x : Nat} (hf : find H m key = some x) :
    MInv H (del H m key) ∧ (del H m key).n + 1 = m.n ∧ (del H m key).ws.length = m.ws.length ∧ ∀ k u, Has (del H m key) k u ↔ k ≠ key ∧ Has m k u := by
  obtain ⟨hx, hc, hk⟩ := find_some I hf
  have hsl := I.sl
  have e : del H m key = upd m x (if empB m (x / 8) then 128 else 254) default (m.n - 1) (if empB m (x / 8) then m.tb else m.tb + 1) := by unfold del; rw [hf]; rfl
  have hpos : 0 < m.n := by
    have := cnt_set (p := fun i => decide (m.c i < 128)) (q := fun i => if i = x then false else decide (m.c i < 128)) hx (fun j hj hne => by simp [hne])
    rw [I.cn]; simp [hc] at this; omega
  rw [e]
  generalize hbb : (if empB m (x / 8) then 128 else 254 : Nat) = b
  generalize htt : (if empB m (x / 8) then m.tb else m.tb + 1 : Nat) = t
  have hb : b < 256 := by rw [← hbb]; split <;> omega
  have hb2 : ¬ b < 128 := by rw [← hbb]; split <;> omega
  have C := upd_c m (default : ByteArray × V) (m.n - 1) t hx hb
  have S := upd_s m b (default : ByteArray × V) (m.n - 1) t (x := x) (by omega)
  have E : ∀ j, empB m j = false → empB (upd m x b default (m.n - 1) t) j = false := fun j h => emp_upd hx hb h (by
    by_cases hj : x / 8 = j
    · left; rw [← hbb, hj, h]; decide
    · exact .inr hj)
  refine ⟨⟨by rw [upd_len]; exact I.gd, by rw [upd_len, upd_sl]; exact hsl, fun j => upd_wl I hx hb j, ?_, ?_, ?_, ?_, ?_, ?_, ?_, ?_⟩, ?_, upd_len _ _ _ _ _ _, fun k v => ?_⟩
  · intro i hi
    rw [upd_len] at hi
    rw [C]; split
    · rw [← hbb]; split <;> simp
    · exact I.ct i hi
  · intro i hi hci
    rw [upd_len] at hi
    rw [C] at hci ⊢
    rw [S]
    by_cases h : i = x
    · rw [if_pos h] at hci; exact absurd hci hb2
    · rw [if_neg h] at hci ⊢; rw [if_neg h]; exact I.wh i hi hci
  · intro i hi hci
    rw [upd_len] at hi
    rw [C] at hci
    rw [S, upd_len]
    by_cases h : i = x
    · rw [if_pos h] at hci; exact absurd hci hb2
    · rw [if_neg h] at hci ⊢
      obtain ⟨p', h1, h2, h3⟩ := I.pr i hi hci
      exact ⟨p', h1, h2, fun q hq' => E _ (h3 q hq')⟩
  · intro i j hi hj hci hcj hk'
    rw [upd_len] at hi hj
    rw [C] at hci hcj
    rw [S, S] at hk'
    by_cases h : i = x
    · rw [if_pos h] at hci; exact absurd hci hb2
    by_cases h' : j = x
    · rw [if_pos h'] at hcj; exact absurd hcj hb2
    rw [if_neg h, if_neg h'] at hk'; rw [if_neg h] at hci; rw [if_neg h'] at hcj
    exact I.un i j hi hj hci hcj hk'
  · rw [upd_len]
    have := cnt_set (p := fun i => decide (m.c i < 128)) (q := fun i => decide ((upd m x b default (m.n - 1) t).c i < 128)) hx (fun j hj hne => by simp only [C, if_neg hne])
    simp only [C, if_pos] at this
    have h1 : decide (m.c x < 128) = true := decide_eq_true hc
    have h2 : decide (b < 128) = false := decide_eq_false hb2
    rw [h1, h2] at this
    have := I.cn
    show m.n - 1 = _
    simp only [C]
    simp at *; omega
  · rw [upd_len]
    have := cnt_set (p := fun i => m.c i == 254) (q := fun i => (upd m x b default (m.n - 1) t).c i == 254) hx (fun j hj hne => by simp only [C, if_neg hne])
    simp only [C, if_pos] at this
    have h2 : (m.c x == 254) = false := by simp; omega
    rw [h2] at this
    have h3 := I.ctb
    show t = _
    simp only [C]
    rw [← htt]
    cases he : empB m (x / 8)
    · rw [he] at hbb; simp at hbb; subst hbb; simp at *; omega
    · rw [he] at hbb; simp at hbb; subst hbb; simp at *; omega
  · rw [upd_len]; have := I.ld
    show m.n - 1 + t ≤ _
    rw [← htt]; split <;> omega
  · show m.n - 1 ≤ _; have := I.mx; omega
  · show m.n - 1 + 1 = m.n; omega
  · rw [Has.upd hx hsl hb]
    constructor
    · rintro (⟨h, _⟩ | ⟨i, h0, h1, h2, h3⟩)
      · exact absurd h hb2
      · exact ⟨fun e => h0 (I.un i x h1 hx h2 hc (by rw [h3, hk]; exact e)), i, h1, h2, h3⟩
    · rintro ⟨h0, i, h1, h2, h3⟩
      exact .inr ⟨i, fun e => h0 (by subst e; rw [h3] at hk; exact hk), h1, h2, h3⟩
theorem del_inv (I : MInv H m) (key : ByteArray) : MInv H (del H m key) := by
  cases hf : find H m key with
  | some x => exact (del_some I hf).1
  | none => rw [del_none hf]; exact I
end
end Go.Proofs.YtcooapflofiolaaDoor
