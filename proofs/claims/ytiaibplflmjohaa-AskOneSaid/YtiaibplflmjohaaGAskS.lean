/- ask.Same and saucierlow.Same answer whether both are equal. -/
import Derived.Test.YtiaibplflmjohaaGAskE
import Derived.Test.YtiaibplflmjohaaPx7
import Derived.Lib.Bytes
import Derived.Test.YtiaibplflmjohaaPx5
namespace Go.Proofs.Ytiaibplflmjohaa.GAskB
open Go.RowKit Go.Proofs.Ytiaibplflmjohaa.P Go.Proofs.YtiaibplflmjohaaW.PrintWords Go.Proofs.YtiaibplflmjohaaW.PrintLast Go.Proofs.Ytiaibplflmjohaa.GAskP Go.Proofs.Ytiaibplflmjohaa.GAsk Go.Proofs.Ytiaibplflmjohaa.GRead
set_option linter.unusedVariables false
set_option linter.unusedSimpArgs false
theorem dec_cons {α : Type} [DecidableEq α] (a b : α) (l m : List α) : decide (a :: l = b :: m) = (decide (a = b) && decide (l = m)) := by
  by_cases h : a = b <;> simp [h]
theorem eqw_l0 (x y : List Int) (hl : x.length = y.length) (hx : x.length < 1000000) (d : Nat) : ∀ (k i : Nat), i + d = x.length → d < k →
    slices_Equal_uint16_uint16.l0 k x y (x.length : Int) (i : Int) = some (decide (x.drop i = y.drop i)) := by
  induction d with
  | zero =>
    intro k i hi hk
    obtain ⟨k, rfl⟩ : ∃ m, k = m + 1 := ⟨k - 1, by omega⟩
    rw [slices_Equal_uint16_uint16.l0, if_neg (by omega), List.drop_of_length_le (by omega), List.drop_of_length_le (by omega)]
    rfl
  | succ d ih =>
    intro k i hi hk
    obtain ⟨k, rfl⟩ : ∃ m, k = m + 1 := ⟨k - 1, by omega⟩
    have e : wrap64 ((i : Int) + 1) = ((i + 1 : Nat) : Int) := by unfold wrap64; omega
    have h1 : i < x.length := by omega
    have h2 : i < y.length := by omega
    have e1 : rd x (i : Int) = x[i] := by simp [rd, h1]
    have e2 : rd y (i : Int) = y[i] := by simp [rd, h2]
    rw [slices_Equal_uint16_uint16.l0, if_pos (by omega), if_pos (by omega), if_pos (by omega), if_pos (by omega), e1, e2, e, List.drop_eq_getElem_cons h1, List.drop_eq_getElem_cons h2, dec_cons]
    by_cases c : x[i] = y[i]
    · rw [if_pos c, ih k (i + 1) (by omega) (by omega), decide_eq_true c, Bool.true_and]
    · rw [if_neg c, decide_eq_false c, Bool.false_and]
theorem eqb_l0 (x y : List Bool) (hl : x.length = y.length) (hx : x.length < 1000000) (d : Nat) : ∀ (k i : Nat), i + d = x.length → d < k →
    slices_Equal_bool_bool.l0 k x y (x.length : Int) (i : Int) = some (decide (x.drop i = y.drop i)) := by
  induction d with
  | zero =>
    intro k i hi hk
    obtain ⟨k, rfl⟩ : ∃ m, k = m + 1 := ⟨k - 1, by omega⟩
    rw [slices_Equal_bool_bool.l0, if_neg (by omega), List.drop_of_length_le (by omega), List.drop_of_length_le (by omega)]
    rfl
  | succ d ih =>
    intro k i hi hk
    obtain ⟨k, rfl⟩ : ∃ m, k = m + 1 := ⟨k - 1, by omega⟩
    have e : wrap64 ((i : Int) + 1) = ((i + 1 : Nat) : Int) := by unfold wrap64; omega
    have h1 : i < x.length := by omega
    have h2 : i < y.length := by omega
    have e1 : rdOf false x (i : Int) = x[i] := by simp [rdOf, h1]
    have e2 : rdOf false y (i : Int) = y[i] := by simp [rdOf, h2]
    rw [slices_Equal_bool_bool.l0, if_pos (by omega), if_pos (by omega), if_pos (by omega), if_pos (by omega), e1, e2, e, List.drop_eq_getElem_cons h1, List.drop_eq_getElem_cons h2, dec_cons]
    by_cases c : x[i] = y[i]
    · rw [if_neg (by simp [c]), ih k (i + 1) (by omega) (by omega), decide_eq_true c, Bool.true_and]
    · rw [if_pos (by simpa using c), decide_eq_false c, Bool.false_and]
theorem eqw_f (x y : List Int) (hx : x.length < 1000000) {k : Nat} (hk : x.length < k) : slices_Equal_uint16_uint16.f k x y = some (decide (x = y)) := by
  unfold slices_Equal_uint16_uint16.f
  by_cases c : (x.length : Int) = (y.length : Int)
  · rw [if_pos c]
    have := eqw_l0 x y (by omega) hx x.length k 0 (by omega) hk
    simpa using this
  · rw [if_neg c]
    have : x ≠ y := fun h => c (by rw [h])
    simp [this]
theorem eqb_f (x y : List Bool) (hx : x.length < 1000000) {k : Nat} (hk : x.length < k) : slices_Equal_bool_bool.f k x y = some (decide (x = y)) := by
  unfold slices_Equal_bool_bool.f
  by_cases c : (x.length : Int) = (y.length : Int)
  · rw [if_pos c]
    have := eqb_l0 x y (by omega) hx x.length k 0 (by omega) hk
    simpa using this
  · rw [if_neg c]
    have : x ≠ y := fun h => c (by rw [h])
    simp [this]
theorem same_f (f a m t : Int) (ws : List Int) (bs : List Bool) (f' a' m' t' : Int) (ws' : List Int) (bs' : List Bool) (hw : ws.length < 1000000) (hb : bs.length < 1000000) {k : Nat} (h1 : ws.length < k) (h2 : bs.length < k) :
    ask_Same.f k f a m t ws bs f' a' m' t' ws' bs' = some (decide ((f, a, m, t, ws, bs) = (f', a', m', t', ws', bs'))) := by
  unfold ask_Same.f
  by_cases c1 : f = f'
  · by_cases c2 : a = a'
    · by_cases c3 : m = m'
      · by_cases c4 : t = t'
        · rw [if_pos c1, if_pos c2, if_pos c3, if_pos c4, eqw_f ws ws' hw h1, Option.bind_some]
          by_cases c5 : ws = ws'
          · rw [if_pos (by simpa using c5), eqb_f bs bs' hb h2, Option.bind_some]
            simp [c1, c2, c3, c4, c5]
          · rw [if_neg (by simpa using c5)]
            simp [c5]
        · rw [if_pos c1, if_pos c2, if_pos c3, if_neg c4]; simp [c4]
      · rw [if_pos c1, if_pos c2, if_neg c3]; simp [c3]
    · rw [if_pos c1, if_neg c2]; simp [c2]
  · rw [if_neg c1]; simp [c1]
theorem str_inj : ∀ {l m : List Int}, bytes l → bytes m → (l.map fun n => UInt8.ofNat n.toNat) = (m.map fun n => UInt8.ofNat n.toNat) → l = m
  | [], [], _, _, _ => rfl
  | [], _ :: _, _, _, h => by simp at h
  | _ :: _, [], _, _, h => by simp at h
  | x :: l, y :: m, hl, hm, h => by
    simp only [List.map_cons, List.cons.injEq] at h
    have hx := hl x (by simp)
    have hy := hm y (by simp)
    have e := congrArg UInt8.toNat h.1
    rw [UInt8.toNat_ofNat', UInt8.toNat_ofNat'] at e
    have : x = y := by omega
    rw [this, str_inj (fun z hz => hl z (by simp [hz])) (fun z hz => hm z (by simp [hz])) h.2]
theorem lsame_f {l m : List Int} (hl : bytes l) (hm : bytes m) : saucierlow_Same.f l m = some (decide (l = m)) := by
  unfold saucierlow_Same.f
  congr 1
  apply Bool.eq_iff_iff.2
  simp only [beq_iff_eq, decide_eq_true_eq]
  constructor
  · intro h
    refine str_inj hl hm ?_
    rw [← strOfNums_data, ← strOfNums_data]
    rw [← Lib.toList_data, ← Lib.toList_data, h]
  · intro h; rw [h]
theorem pt_byte (l : List Int) : bytes (pt l) := by
  intro x hx
  simp only [pt, List.mem_flatMap, List.mem_cons, List.not_mem_nil, or_false] at hx
  obtain ⟨y, _, rfl | rfl⟩ := hx <;> omega
theorem enc_byte {f a m t : Int} {ws : List Int} {bs : List Bool} (hf : 0 ≤ f ∧ f < 256) : bytes (enc f a m t ws bs) := by
  have app : ∀ {l m : List Int}, bytes l → bytes m → bytes (l ++ m) := fun hl hm x hx => by
    rcases List.mem_append.1 hx with h | h
    · exact hl x h
    · exact hm x h
  have one : ∀ n : Int, bytes [n % 256] := fun n x hx => by
    rw [List.mem_singleton.1 hx]
    omega
  have hp : bytes (pk bs) := pk_byte bs
  unfold enc
  refine app (l := f :: pt [a]) ?_ ?_
  · intro x hx
    rcases List.mem_cons.1 hx with rfl | hx
    · exact hf
    · exact pt_byte _ x hx
  · split
    · exact pt_byte _
    · split
      · exact pt_byte _
      · refine app (pt_byte _) ?_
        split
        · exact app (one _) hp
        · split
          · exact app (one _) (pt_byte _)
          · split
            · exact app (app (pt_byte _) (one _)) (pt_byte _)
            · intro x hx; cases hx
end Go.Proofs.Ytiaibplflmjohaa.GAskB
