/- Bits packed and unpacked: what ask.Pack and ask.Unpack compute, and that each undoes the other. -/
import Derived.Test.YtiaibplflmjohaaPx3
import Derived.Test.YtiaibplflmjohaaPx10
namespace Go.Proofs.Ytiaibplflmjohaa.GAskP
open Go.RowKit Go.Proofs.Ytiaibplflmjohaa.P Go.Proofs.YtiaibplflmjohaaW.PrintWords Go.Proofs.YtiaibplflmjohaaW.PrintLast
set_option linter.unusedVariables false
set_option linter.unusedSimpArgs false
theorem up_of {α : Type} {f : Nat → Option α} (h : ∀ k, LeO (f k) (f (k + 1))) {k k' : Nat} (hk : k ≤ k') {r : α} (hf : f k = some r) : f k' = some r := by
  obtain ⟨d, rfl⟩ := Nat.exists_eq_add_of_le hk
  clear hk
  induction d with
  | zero => exact hf
  | succ d ih => exact h _ _ ih
theorem unp_up {l : List Int} (hl : l.length < 17592186044416) {k : Nat} (hk : 1 + 10 * l.length ≤ k) : ask_Unpack.f k l = some (unp l) := up_of (ask_Unpack.mono l) hk (unp_f l hl)
def pk8 (b0 b1 b2 b3 b4 b5 b6 b7 : Bool) : Int :=
  (if b0 then 1 else 0) + (if b1 then 2 else 0) + (if b2 then 4 else 0) + (if b3 then 8 else 0) + (if b4 then 16 else 0) + (if b5 then 32 else 0) + (if b6 then 64 else 0) + (if b7 then 128 else 0)
def g (l : List Bool) (i : Nat) : Bool := l.getD i false
def pkB (l : List Bool) (j : Nat) : Int := pk8 (g l (8 * j)) (g l (8 * j + 1)) (g l (8 * j + 2)) (g l (8 * j + 3)) (g l (8 * j + 4)) (g l (8 * j + 5)) (g l (8 * j + 6)) (g l (8 * j + 7))
def pk (l : List Bool) : List Int := (List.range ((l.length + 7) / 8)).map (pkB l)
theorem pk_len (l : List Bool) : (pk l).length = (l.length + 7) / 8 := by simp [pk]
theorem g_take (l : List Bool) (i x : Nat) : g (l.take i) x = if x < i then g l x else false := by
  unfold g
  rw [List.getD_eq_getElem?_getD, List.getD_eq_getElem?_getD, List.getElem?_take]
  split <;> rfl
theorem pkB_other (l : List Bool) (i t : Nat) (h : t ≠ i / 8) : pkB (l.take (i + 1)) t = pkB (l.take i) t := by
  have e : ∀ s, s < 8 → g (l.take (i + 1)) (8 * t + s) = g (l.take i) (8 * t + s) := fun s hs => by
    rw [g_take, g_take]
    by_cases h1 : 8 * t + s < i
    · rw [if_pos h1, if_pos (by omega)]
    · rw [if_neg h1, if_neg (by omega)]
  unfold pkB
  have e0 := e 0 (by omega)
  simp only [Nat.add_zero] at e0
  rw [e0, e 1 (by omega), e 2 (by omega), e 3 (by omega), e 4 (by omega), e 5 (by omega), e 6 (by omega), e 7 (by omega)]
theorem pkB_same (l : List Bool) (i t : Nat) (h : g l i = false) : pkB (l.take (i + 1)) t = pkB (l.take i) t := by
  have e : ∀ s, g (l.take (i + 1)) s = g (l.take i) s := fun s => by
    rw [g_take, g_take]
    by_cases h1 : s < i
    · rw [if_pos h1, if_pos (by omega)]
    · by_cases h2 : s = i
      · subst h2; rw [if_pos (by omega), if_neg h1, h]
      · rw [if_neg h1, if_neg (by omega)]
  unfold pkB
  simp only [e]
theorem or8 (b0 b1 b2 b3 b4 b5 b6 : Bool) :
    Go.bits .or .u8 (pk8 false false false false false false false false) (shl .u8 1 0) = pk8 true false false false false false false false ∧
    Go.bits .or .u8 (pk8 b0 false false false false false false false) (shl .u8 1 1) = pk8 b0 true false false false false false false ∧
    Go.bits .or .u8 (pk8 b0 b1 false false false false false false) (shl .u8 1 2) = pk8 b0 b1 true false false false false false ∧
    Go.bits .or .u8 (pk8 b0 b1 b2 false false false false false) (shl .u8 1 3) = pk8 b0 b1 b2 true false false false false ∧
    Go.bits .or .u8 (pk8 b0 b1 b2 b3 false false false false) (shl .u8 1 4) = pk8 b0 b1 b2 b3 true false false false ∧
    Go.bits .or .u8 (pk8 b0 b1 b2 b3 b4 false false false) (shl .u8 1 5) = pk8 b0 b1 b2 b3 b4 true false false ∧
    Go.bits .or .u8 (pk8 b0 b1 b2 b3 b4 b5 false false) (shl .u8 1 6) = pk8 b0 b1 b2 b3 b4 b5 true false ∧
    Go.bits .or .u8 (pk8 b0 b1 b2 b3 b4 b5 b6 false) (shl .u8 1 7) = pk8 b0 b1 b2 b3 b4 b5 b6 true := by
  revert b0 b1 b2 b3 b4 b5 b6
  decide +kernel
theorem pkB_on (l : List Bool) (t r : Nat) (hr : r < 8) (h : g l (8 * t + r) = true) : pkB (l.take (8 * t + r + 1)) t = Go.bits .or .u8 (pkB (l.take (8 * t + r)) t) (shl .u8 1 (r : Int)) := by
  have q := or8 (g l (8 * t)) (g l (8 * t + 1)) (g l (8 * t + 2)) (g l (8 * t + 3)) (g l (8 * t + 4)) (g l (8 * t + 5)) (g l (8 * t + 6))
  obtain ⟨q0, q1, q2, q3, q4, q5, q6, q7⟩ := q
  have A : ∀ s, g (l.take (8 * t + r + 1)) (8 * t + s) = if s < r + 1 then g l (8 * t + s) else false := fun s => by
    rw [g_take]
    by_cases c : s < r + 1
    · rw [if_pos c, if_pos (by omega)]
    · rw [if_neg c, if_neg (by omega)]
  have B : ∀ s, g (l.take (8 * t + r)) (8 * t + s) = if s < r then g l (8 * t + s) else false := fun s => by
    rw [g_take]
    by_cases c : s < r
    · rw [if_pos c, if_pos (by omega)]
    · rw [if_neg c, if_neg (by omega)]
  have A0 := A 0
  have B0 := B 0
  simp only [Nat.add_zero] at A0 B0
  unfold pkB
  rw [A0, A 1, A 2, A 3, A 4, A 5, A 6, A 7, B0, B 1, B 2, B 3, B 4, B 5, B 6, B 7]
  clear A B A0 B0
  match r, hr, h with
  | 0, _, h =>
    simp only [Nat.add_zero] at h
    simp [h] at q0 ⊢; exact q0.symm
  | 1, _, h => simp [h] at q1 ⊢; exact q1.symm
  | 2, _, h => simp [h] at q2 ⊢; exact q2.symm
  | 3, _, h => simp [h] at q3 ⊢; exact q3.symm
  | 4, _, h => simp [h] at q4 ⊢; exact q4.symm
  | 5, _, h => simp [h] at q5 ⊢; exact q5.symm
  | 6, _, h => simp [h] at q6 ⊢; exact q6.symm
  | 7, _, h => simp [h] at q7 ⊢; exact q7.symm
theorem pack_l0 (l : List Bool) (hl : l.length < 140737488355328) (d : Nat) : ∀ (k i : Nat), i + d = l.length → d < k →
    ask_Pack.l0 k ((List.range ((l.length + 7) / 8)).map (pkB (l.take i))) l (l.length : Int) (i : Int) = some (pk l) := by
  induction d with
  | zero =>
    intro k i hi hk
    obtain ⟨k, rfl⟩ : ∃ m, k = m + 1 := ⟨k - 1, by omega⟩
    rw [ask_Pack.l0, if_neg (by omega), List.take_of_length_le (by omega)]
    rfl
  | succ d ih =>
    intro k i hi hk
    obtain ⟨k, rfl⟩ : ∃ m, k = m + 1 := ⟨k - 1, by omega⟩
    have e1 : wrap64 ((i : Int) + 1) = ((i + 1 : Nat) : Int) := by unfold wrap64; omega
    have e2 : wrap64 (Int.tdiv (i : Int) 8) = ((i / 8 : Nat) : Int) := by
      rw [Int.tdiv_eq_ediv_of_nonneg (by omega)]
      unfold wrap64
      omega
    have e3 : Int.tmod (i : Int) 8 = ((i % 8 : Nat) : Int) := by
      rw [Int.tmod_eq_emod_of_nonneg (by omega)]
      omega
    have e4 : rdOf false l (i : Int) = g l i := by simp [rdOf, g]
    rw [ask_Pack.l0, if_pos (by omega), if_pos (by omega), if_pos (by omega), e1, e2, e3, e4]
    obtain ⟨q, hq⟩ : ∃ q, q = i / 8 := ⟨_, rfl⟩
    obtain ⟨r, hr⟩ : ∃ r, r = i % 8 := ⟨_, rfl⟩
    have hi8 : 8 * q + r = i := by omega
    have hr8 : r < 8 := by omega
    rw [← hq, ← hr]
    cases hg : g l i with
    | true =>
      obtain ⟨m, hm⟩ : ∃ m, m = (l.length + 7) / 8 := ⟨_, rfl⟩
      have hlt : q < m := by omega
      have ih' := ih k (i + 1) (by omega) (by omega)
      rw [← hm] at ih' ⊢
      rw [if_pos rfl, if_pos (by omega), if_pos (by simp; omega), if_pos (by omega)]
      rw [← ih']
      congr 1
      have hrd : rd ((List.range m).map (pkB (l.take i))) (q : Int) = pkB (l.take i) q := by
        simp [rd, hlt]
      rw [hrd, show ((q : Int)).toNat = q from Int.toNat_natCast q]
      apply List.ext_getElem (by simp)
      intro t h1 h2
      rw [List.getElem_set]
      by_cases ht : q = t
      · subst ht
        have := pkB_on l q r hr8 (by rw [hi8]; exact hg)
        rw [hi8] at this
        rw [if_pos rfl, ← this]
        simp
      · rw [if_neg ht]
        simp [pkB_other l i t (by omega)]
    | false =>
      rw [if_neg (by simp), ← ih k (i + 1) (by omega) (by omega)]
      congr 1
      apply List.ext_getElem (by simp)
      intro t h1 h2
      simp [pkB_same l i t hg]
theorem pack_f (l : List Bool) (hl : l.length < 140737488355328) {k : Nat} (hk : l.length < k) : ask_Pack.f k l = some (pk l) := by
  have e7 : wrap64 ((l.length : Int) + 7) = (l.length : Int) + 7 := by unfold wrap64; omega
  have e8 : wrap64 (Int.tdiv ((l.length : Int) + 7) 8) = (((l.length + 7) / 8 : Nat) : Int) := by
    rw [Int.tdiv_eq_ediv_of_nonneg (by omega)]
    unfold wrap64
    omega
  unfold ask_Pack.f
  rw [e7, e8]
  have := pack_l0 l hl l.length k 0 (by omega) hk
  obtain ⟨m, hm⟩ : ∃ m, m = (l.length + 7) / 8 := ⟨_, rfl⟩
  rw [← hm] at this ⊢
  rw [if_pos (by omega), if_pos (by simp; omega), ← this, show ((m : Int)).toNat = m from Int.toNat_natCast m]
  congr 1
  apply List.ext_getElem (by simp)
  intro t h1 h2
  simp [pkB, g, pk8]
theorem bt_pk8 (b0 b1 b2 b3 b4 b5 b6 b7 : Bool) : unp8 (pk8 b0 b1 b2 b3 b4 b5 b6 b7) = [b0, b1, b2, b3, b4, b5, b6, b7] := by
  revert b0 b1 b2 b3 b4 b5 b6 b7
  decide +kernel
theorem pk8_bt : ∀ c : Fin 256, pk8 (bt c.val 0) (bt c.val 1) (bt c.val 2) (bt c.val 3) (bt c.val 4) (bt c.val 5) (bt c.val 6) (bt c.val 7) = (c.val : Int) := by decide +kernel
theorem pk8_byte (b0 b1 b2 b3 b4 b5 b6 b7 : Bool) : 0 ≤ pk8 b0 b1 b2 b3 b4 b5 b6 b7 ∧ pk8 b0 b1 b2 b3 b4 b5 b6 b7 < 256 := by
  revert b0 b1 b2 b3 b4 b5 b6 b7
  decide +kernel
theorem unp_get (l : List Int) (j s : Nat) (hj : j < l.length) (hs : s < 8) : g (unp l) (8 * j + s) = (unp8 (l.getD j 0)).getD s false := by
  induction l generalizing j with
  | nil => simp at hj
  | cons x l ih =>
    have e : unp (x :: l) = unp8 x ++ unp l := by simp [unp]
    rw [e]
    unfold g
    rw [List.getD_eq_getElem?_getD]
    cases j with
    | zero =>
      rw [List.getElem?_append_left (by simp [unp8]; omega)]
      simp
    | succ j =>
      rw [List.getElem?_append_right (by simp [unp8]; omega)]
      have := ih j (by simpa using hj)
      unfold g at this
      rw [List.getD_eq_getElem?_getD] at this
      rw [show 8 * (j + 1) + s - (unp8 x).length = 8 * j + s by simp [unp8]; omega, this]
      simp
theorem pk_unp (l : List Int) (h : ∀ x ∈ l, 0 ≤ x ∧ x < 256) : pk (unp l) = l := by
  have hl := unp_len l
  apply List.ext_getElem
  · rw [pk_len, hl]; omega
  · intro j h1 h2
    have hb := h _ (List.getElem_mem h2)
    have hq := pk8_bt ⟨l[j].toNat, by omega⟩
    have hc : ((l[j].toNat : Nat) : Int) = l[j] := by omega
    simp only [hc] at hq
    have e : l.getD j 0 = l[j] := by simp [h2]
    have u := fun s hs => unp_get l j s h2 hs
    rw [e] at u
    have u0 := u 0 (by omega)
    simp only [Nat.add_zero] at u0
    simp only [pk, List.getElem_map, List.getElem_range]
    unfold pkB
    rw [u0, u 1 (by omega), u 2 (by omega), u 3 (by omega), u 4 (by omega), u 5 (by omega), u 6 (by omega), u 7 (by omega)]
    exact hq
theorem unp_pk_get (l : List Bool) (x : Nat) (hx : x < 8 * ((l.length + 7) / 8)) : g (unp (pk l)) x = g l x := by
  have h1 : x / 8 < (pk l).length := by rw [pk_len]; omega
  have := unp_get (pk l) (x / 8) (x % 8) h1 (by omega)
  rw [show 8 * (x / 8) + x % 8 = x by omega] at this
  rw [this]
  have e : (pk l).getD (x / 8) 0 = pkB l (x / 8) := by
    rw [pk_len] at h1
    simp [pk, h1]
  rw [e]
  unfold pkB
  rw [bt_pk8]
  have hx8 : 8 * (x / 8) + x % 8 = x := by omega
  have hm : x % 8 < 8 := by omega
  generalize x / 8 = j at *
  generalize x % 8 = s at *
  subst hx8
  match s, hm with
  | 0, _ => rfl
  | 1, _ => rfl
  | 2, _ => rfl
  | 3, _ => rfl
  | 4, _ => rfl
  | 5, _ => rfl
  | 6, _ => rfl
  | 7, _ => rfl
theorem unp_pk (l : List Bool) : unp (pk l) = l ++ List.replicate (8 * ((l.length + 7) / 8) - l.length) false := by
  have hlen : (unp (pk l)).length = 8 * ((l.length + 7) / 8) := by rw [unp_len, pk_len]
  apply List.ext_getElem
  · simp [hlen]; omega
  · intro x h1 h2
    have hx : x < 8 * ((l.length + 7) / 8) := by omega
    have := unp_pk_get l x hx
    have e1 : g (unp (pk l)) x = (unp (pk l))[x] := by unfold g; simp [h1]
    rw [← e1, this]
    unfold g
    rw [List.getElem_append]
    split
    · rename_i h; simp [h]
    · rename_i h
      rw [List.getD_eq_getElem?_getD, List.getElem?_eq_none (by omega)]
      simp
theorem pk_byte (l : List Bool) : ∀ x ∈ pk l, 0 ≤ x ∧ x < 256 := by
  intro x hx
  simp only [pk, List.mem_map] at hx
  obtain ⟨j, _, rfl⟩ := hx
  exact pk8_byte _ _ _ _ _ _ _ _
end Go.Proofs.Ytiaibplflmjohaa.GAskP
