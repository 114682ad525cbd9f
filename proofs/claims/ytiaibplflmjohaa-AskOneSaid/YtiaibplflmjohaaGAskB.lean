/- What ask.Bytes says of a right request (enc), what ask.read makes of it, and that each undoes the other. -/
import Derived.Test.YtiaibplflmjohaaGAskP
import Derived.Test.YtiaibplflmjohaaPx4
import Derived.Test.YtiaibplflmjohaaPx10
namespace Go.Proofs.Ytiaibplflmjohaa.GAskB
open Go.RowKit Go.Proofs.Ytiaibplflmjohaa.P Go.Proofs.YtiaibplflmjohaaW.PrintWords Go.Proofs.YtiaibplflmjohaaW.PrintLast Go.Proofs.Ytiaibplflmjohaa.GAskP Go.Proofs.Ytiaibplflmjohaa.GAsk Go.Proofs.Ytiaibplflmjohaa.GRead
set_option linter.unusedVariables false
set_option linter.unusedSimpArgs false
def pt (l : List Int) : List Int := l.flatMap fun x => [x / 256 % 256, x % 256]
theorem pt_cons (x : Int) (l : List Int) : pt (x :: l) = x / 256 % 256 :: x % 256 :: pt l := rfl
theorem pt_nil : pt [] = [] := rfl
theorem pt_len (l : List Int) : (pt l).length = 2 * l.length := by
  induction l with
  | nil => rfl
  | cons x l ih => rw [pt_cons]; simp [ih]; omega
theorem put_l0 (l : List Int) (hl : l.length < 1000000) (d : Nat) : ∀ (k i : Nat) (acc : List Int), i + d = l.length → d < k → acc.length + 2 * d < 100000000 →
    ask_put.l0 k acc l (l.length : Int) (i : Int) = some (acc ++ pt (l.drop i)) := by
  induction d with
  | zero =>
    intro k i acc hi hk ha
    obtain ⟨k, rfl⟩ : ∃ m, k = m + 1 := ⟨k - 1, by omega⟩
    rw [ask_put.l0, if_neg (by omega), List.drop_of_length_le (by omega)]
    simp [pt]
  | succ d ih =>
    intro k i acc hi hk ha
    obtain ⟨k, rfl⟩ : ∃ m, k = m + 1 := ⟨k - 1, by omega⟩
    have e1 : wrap64 ((i : Int) + 1) = ((i + 1 : Nat) : Int) := by unfold wrap64; omega
    have hlt : i < l.length := by omega
    have e2 : rd l (i : Int) = l[i] := by simp [rd, hlt]
    rw [ask_put.l0, if_pos (by omega), if_pos (by omega), if_pos (by omega), Option.bind_some, if_pos (by simp; omega), e1, e2, ih k (i + 1) _ (by omega) (by omega) (by simp; omega), List.drop_eq_getElem_cons hlt, pt_cons]
    simp
theorem put_f (l0 l : List Int) (hl : l.length < 1000000) (h0 : l0.length < 10000000) {k : Nat} (hk : l.length < k) : ask_put.f k l0 l = some (l0 ++ pt l) := by
  have := put_l0 l hl l.length k 0 l0 (by omega) hk (by omega)
  simpa [ask_put.f] using this
theorem counted_f (l0 l : List Int) (h0 : l0.length < 1000000) (h1 : l.length < 1000000) : ask_counted.f l0 l = some (l0 ++ [(l.length : Int) % 256] ++ l) := by
  unfold ask_counted.f
  rw [if_pos (by omega), Option.bind_some, if_pos (by simp; omega)]
def enc (f at_ many to_ : Int) (ws : List Int) (bs : List Bool) : List Int :=
  f :: pt [at_] ++
  (if f = 5 then pt [if bs.getD 0 false = true then 65280 else 0]
  else if f = 6 then pt [ws.getD 0 0]
  else pt [many] ++
    (if f = 15 then [((pk bs).length : Int) % 256] ++ pk bs
    else if f = 16 then [((pt ws).length : Int) % 256] ++ pt ws
    else if f = 23 then pt [to_, IntKind.u16.wrap (ws.length : Int)] ++ [((pt ws).length : Int) % 256] ++ pt ws
    else []))
def rightP (f many to_ : Int) (nw nb : Nat) : Prop :=
  ((f = 1 ∨ f = 2) ∧ nw = 0 ∧ nb = 0 ∧ to_ = 0 ∧ 1 ≤ many ∧ many ≤ 2000) ∨ ((f = 3 ∨ f = 4) ∧ nw = 0 ∧ nb = 0 ∧ to_ = 0 ∧ 1 ≤ many ∧ many ≤ 125) ∨
  (f = 5 ∧ nw = 0 ∧ nb = 1 ∧ to_ = 0 ∧ many = 0) ∨ (f = 6 ∧ nw = 1 ∧ nb = 0 ∧ to_ = 0 ∧ many = 0) ∨
  (f = 15 ∧ nw = 0 ∧ many = nb ∧ to_ = 0 ∧ 1 ≤ nb ∧ nb ≤ 1968) ∨ (f = 16 ∧ nb = 0 ∧ many = nw ∧ to_ = 0 ∧ 1 ≤ nw ∧ nw ≤ 123) ∨
  (f = 23 ∧ nb = 0 ∧ 1 ≤ nw ∧ nw ≤ 121 ∧ 1 ≤ many ∧ many ≤ 125)
theorem right_iff (f many to_ : Int) (nw nb : Nat) (h0 : 0 ≤ many) (h1 : many < 65536) (hw : nw < 1000000) (hb : nb < 1000000) : rightB f many to_ nw nb = true ↔ rightP f many to_ nw nb := by
  have e : wrap64 many = many := by unfold wrap64; omega
  have e2 : wrap64 ((nb : Int) + (nw : Int)) = (nb : Int) + (nw : Int) := by unfold wrap64; omega
  have e3 : (0 : Int) ≤ (nb : Int) + (nw : Int) := by omega
  unfold rightB rightP kindOf
  by_cases g1 : f = 1
  · subst g1; simp [listedB, manyI, e]; omega
  by_cases g2 : f = 2
  · subst g2; simp [listedB, manyI, e]; omega
  by_cases g3 : f = 3
  · subst g3; simp [listedB, manyI, e]; omega
  by_cases g4 : f = 4
  · subst g4; simp [listedB, manyI, e]; omega
  by_cases g5 : f = 5
  · subst g5; simp [listedB, manyI, e]; omega
  by_cases g6 : f = 6
  · subst g6; simp [listedB, manyI, e]; omega
  by_cases g15 : f = 15
  · subst g15; simp [listedB, manyI, e, e2, e3]; omega
  by_cases g16 : f = 16
  · subst g16; simp [listedB, manyI, e, e2, e3]; omega
  by_cases g23 : f = 23
  · subst g23; simp [listedB, manyI, e]; omega
  simp [g1, g2, g3, g4, g5, g6, g15, g16, g23]
theorem two_bytes (h l : Int) (h0 : 0 ≤ h) (h1 : h < 256) (l0 : 0 ≤ l) (l1 : l < 256) : two h l = 256 * h + l := by
  obtain ⟨a, rfl⟩ := Int.eq_ofNat_of_zero_le h0
  obtain ⟨b, rfl⟩ := Int.eq_ofNat_of_zero_le l0
  have ha : a < 256 := by omega
  have hb : b < 256 := by omega
  have e1 : IntKind.u16.wrap (a : Int) = a := by simp [IntKind.wrap, IntKind.bits, IntKind.signed]; omega
  have e2 : IntKind.u16.wrap ((a : Int) * 256) = ((a * 256 : Nat) : Int) := by simp [IntKind.wrap, IntKind.bits, IntKind.signed]; omega
  have e3 : IntKind.u16.wrap (b : Int) = b := by simp [IntKind.wrap, IntKind.bits, IntKind.signed]; omega
  unfold two
  rw [e1, e2, e3]
  have e : Go.bits .or .u16 ((a * 256 : Nat) : Int) (b : Int) = IntKind.u16.wrap (((a * 256) ||| b : Nat) : Int) := by
    show IntKind.u16.wrap ((BitVec.ofInt 16 ((a * 256 : Nat) : Int) ||| BitVec.ofInt 16 (b : Int)).toNat : Int) = _
    congr 2
    rw [BitVec.toNat_or, BitVec.ofInt_natCast, BitVec.ofInt_natCast, BitVec.toNat_ofNat, BitVec.toNat_ofNat, Nat.mod_eq_of_lt (by omega), Nat.mod_eq_of_lt (by omega)]
  rw [e, show a * 256 ||| b = a * 256 + b by
    have := Nat.two_pow_add_eq_or_of_lt (i := 8) (b := b) (by omega) a
    rw [Nat.mul_comm a 256]
    exact this.symm]
  simp [IntKind.wrap, IntKind.bits, IntKind.signed]
  omega
theorem two_split (x : Int) (h0 : 0 ≤ x) (h1 : x < 65536) : two (x / 256 % 256) (x % 256) = x := by
  rw [two_bytes _ _ (by omega) (by omega) (by omega) (by omega)]
  omega
theorem rb1_cons (x : Int) (t : List Int) : rb1 (x :: t) false = (x, t, false) := by simp [rb1, rd]
theorem rnum_cons (h l : Int) (t : List Int) : rnum (h :: l :: t) false = (two h l, t, false) := by simp [rnum, rb1_cons]
theorem rnum_pt (x : Int) (h0 : 0 ≤ x) (h1 : x < 65536) (t : List Int) : rnum (pt [x] ++ t) false = (x, t, false) := by
  rw [pt_cons]
  simp [rnum_cons, two_split x h0 h1, pt]
theorem rrest_ok (t : List Int) (n : Int) (hn : wrap64 n = t.length) : rrest (n :: t) false = (t, [], false) := by
  unfold rrest
  rw [rb1_cons]
  simp [hn]
theorem pairs_pt (l : List Int) (h : ∀ x ∈ l, 0 ≤ x ∧ x < 65536) : pairsF (pt l) = (l, false) := by
  induction l with
  | nil => rfl
  | cons x l ih =>
    have hx := h x (by simp)
    rw [pt_cons, pairsF, ih (fun y hy => h y (by simp [hy])), two_split x hx.1 hx.2]
theorem rwords_pt (l : List Int) (h : ∀ x ∈ l, 0 ≤ x ∧ x < 65536) (hl : l.length ≤ 127) : rwords ([((pt l).length : Int) % 256] ++ pt l) false = (l, [], false) := by
  have hp := pt_len l
  have e : rrest ([((pt l).length : Int) % 256] ++ pt l) false = (pt l, [], false) := rrest_ok (pt l) _ (by unfold wrap64; omega)
  unfold rwords
  rw [e]
  simp [pairs_pt l h]
theorem rbits_pk (l : List Bool) (hl : l.length ≤ 2000) : rbits ([((pk l).length : Int) % 256] ++ pk l) false (l.length : Int) = (l, [], false) := by
  have hp := pk_len l
  have e : rrest ([((pk l).length : Int) % 256] ++ pk l) false = (pk l, [], false) := rrest_ok (pk l) _ (by unfold wrap64; omega)
  have e7 : wrap64 ((l.length : Int) + 7) = (l.length : Int) + 7 := by unfold wrap64; omega
  have e8 : wrap64 (Int.tdiv ((l.length : Int) + 7) 8) = (((l.length + 7) / 8 : Nat) : Int) := by
    rw [Int.tdiv_eq_ediv_of_nonneg (by omega)]
    unfold wrap64
    omega
  unfold rbits
  rw [e]
  simp only [Bool.false_eq_true, if_false]
  rw [e7, e8, if_neg (by rw [hp]; simp), unp_pk, Int.toNat_natCast]
  simp
/-- What a request's parts are. -/
def wfA (f at_ many to_ : Int) (ws : List Int) (bs : List Bool) : Prop :=
  (0 ≤ f ∧ f < 256) ∧ (0 ≤ at_ ∧ at_ < 65536) ∧ (0 ≤ many ∧ many < 65536) ∧ (0 ≤ to_ ∧ to_ < 65536) ∧ (∀ x ∈ ws, 0 ≤ x ∧ x < 65536)
theorem one_of_len {α : Type} {l : List α} (h : l.length = 1) : ∃ x, l = [x] := by
  match l, h with
  | [x], _ => exact ⟨x, rfl⟩
theorem nil_of_len {α : Type} {l : List α} (h : l.length = 0) : l = [] := List.length_eq_zero_iff.1 h
theorem wrap64_16 {x : Int} (h0 : 0 ≤ x) (h1 : x < 65536) : wrap64 x = x := by unfold wrap64; omega
theorem rread_eq {l t1 t2 t3 t4 ws1 ws2 : List Int} {f a many to_ : Int} {b1 b2 b3 b4 : Bool} {bs1 bs2 : List Bool} (h1 : rb1 l false = (f, t1, b1)) (h2 : rnum t1 b1 = (a, t2, b2)) (h3 : mid1 f t2 b2 = (many, ws1, bs1, t3, b3)) (h4 : mid2 f many ws1 bs1 t3 b3 = (to_, ws2, bs2, t4, b4)) :
    rread l = (f, a, many, to_, ws2, bs2, !b4 && (t4.length : Int) == 0) := by
  unfold rread
  simp only [h1, h2, h3, h4]
theorem mid1_5 {l t : List Int} {b c : Bool} {x : Int} (h : rnum l b = (x, t, c)) : mid1 5 l b = (0, [], [x == 65280], t, c || (x != 65280 && x != 0)) := by
  unfold mid1
  rw [h, if_pos rfl]
theorem mid1_6 {l t : List Int} {b c : Bool} {x : Int} (h : rnum l b = (x, t, c)) : mid1 6 l b = (0, [x], [], t, c) := by
  unfold mid1
  rw [h, if_neg (by decide), if_pos rfl]
theorem mid1_o {l t : List Int} {b c : Bool} {x f : Int} (h : rnum l b = (x, t, c)) (h5 : f ≠ 5) (h6 : f ≠ 6) : mid1 f l b = (x, [], [], t, c) := by
  unfold mid1
  rw [h, if_neg h5, if_neg h6]
theorem mid2_15 {l t : List Int} {b c : Bool} {many : Int} {ws : List Int} {bs bs2 : List Bool} (h : rbits l b (wrap64 many) = (bs2, t, c)) : mid2 15 many ws bs l b = (0, ws, bs2, t, c) := by
  unfold mid2
  rw [h, if_pos rfl]
theorem mid2_16 {l t : List Int} {b c : Bool} {many : Int} {ws ws2 : List Int} {bs : List Bool} (h : rwords l b = (ws2, t, c)) : mid2 16 many ws bs l b = (0, ws2, bs, t, c) := by
  unfold mid2
  rw [h, if_neg (by decide), if_pos rfl]
theorem mid2_23 {l t1 t2 t3 : List Int} {b c1 c2 c3 : Bool} {many to_ n : Int} {ws ws2 : List Int} {bs : List Bool} (h1 : rnum l b = (to_, t1, c1)) (h2 : rnum t1 c1 = (n, t2, c2)) (h3 : rwords t2 c2 = (ws2, t3, c3)) :
    mid2 23 many ws bs l b = (to_, ws2, bs, t3, c3 || wrap64 n != (ws2.length : Int)) := by
  unfold mid2
  rw [if_neg (by decide), if_neg (by decide), if_pos rfl, h1]
  dsimp only
  rw [h2]
  dsimp only
  rw [h3]
theorem mid2_o {l : List Int} {b : Bool} {many f : Int} {ws : List Int} {bs : List Bool} (h1 : f ≠ 15) (h2 : f ≠ 16) (h3 : f ≠ 23) : mid2 f many ws bs l b = (0, ws, bs, l, b) := by
  unfold mid2
  rw [if_neg h1, if_neg h2, if_neg h3]
theorem enc_o {f at_ many to_ : Int} {ws : List Int} {bs : List Bool} (n5 : f ≠ 5) (n6 : f ≠ 6) (n15 : f ≠ 15) (n16 : f ≠ 16) (n23 : f ≠ 23) : enc f at_ many to_ ws bs = f :: (pt [at_] ++ (pt [many] ++ [])) := by
  unfold enc
  rw [if_neg n5, if_neg n6, if_neg n15, if_neg n16, if_neg n23]
  rfl
theorem enc_5 {at_ many to_ : Int} {ws : List Int} {x : Bool} : enc 5 at_ many to_ ws [x] = 5 :: (pt [at_] ++ (pt [if x = true then 65280 else 0] ++ [])) := by
  unfold enc
  rw [if_pos rfl]
  rfl
theorem enc_6 {at_ many to_ x : Int} {bs : List Bool} : enc 6 at_ many to_ [x] bs = 6 :: (pt [at_] ++ (pt [x] ++ [])) := by
  unfold enc
  rw [if_neg (by decide), if_pos rfl]
  rfl
theorem enc_15 {at_ many to_ : Int} {ws : List Int} {bs : List Bool} : enc 15 at_ many to_ ws bs = 15 :: (pt [at_] ++ (pt [many] ++ ([((pk bs).length : Int) % 256] ++ pk bs))) := by
  unfold enc
  rw [if_neg (by decide), if_neg (by decide), if_pos rfl]
  rfl
theorem enc_16 {at_ many to_ : Int} {ws : List Int} {bs : List Bool} : enc 16 at_ many to_ ws bs = 16 :: (pt [at_] ++ (pt [many] ++ ([((pt ws).length : Int) % 256] ++ pt ws))) := by
  unfold enc
  rw [if_neg (by decide), if_neg (by decide), if_neg (by decide), if_pos rfl]
  rfl
theorem enc_23 {at_ many to_ : Int} {ws : List Int} {bs : List Bool} (hn : IntKind.u16.wrap (ws.length : Int) = (ws.length : Int)) : enc 23 at_ many to_ ws bs = 23 :: (pt [at_] ++ (pt [many] ++ (pt [to_] ++ (pt [(ws.length : Int)] ++ ([((pt ws).length : Int) % 256] ++ pt ws))))) := by
  unfold enc
  rw [if_neg (by decide), if_neg (by decide), if_neg (by decide), if_neg (by decide), if_pos rfl, hn, pt_cons, pt_cons]
  simp [pt_cons, pt_nil]
theorem read_enc {f at_ many to_ : Int} {ws : List Int} {bs : List Bool} (hw : wfA f at_ many to_ ws bs) (hr : rightP f many to_ ws.length bs.length) :
    rread (enc f at_ many to_ ws bs) = (f, at_, many, to_, ws, bs, true) := by
  obtain ⟨hf, ha, hm, ht, hws⟩ := hw
  have o : ((f = 1 ∨ f = 2) ∨ (f = 3 ∨ f = 4)) → ws.length = 0 → bs.length = 0 → to_ = 0 → rread (enc f at_ many to_ ws bs) = (f, at_, many, to_, ws, bs, true) := fun h h1 h2 h3 => by
    obtain rfl := nil_of_len h1
    obtain rfl := nil_of_len h2
    subst h3
    rw [enc_o (by omega) (by omega) (by omega) (by omega) (by omega), rread_eq (rb1_cons _ _) (rnum_pt at_ ha.1 ha.2 _) (mid1_o (rnum_pt many hm.1 hm.2 _) (by omega) (by omega)) (mid2_o (by omega) (by omega) (by omega))]
    rfl
  rcases hr with ⟨h, h1, h2, h3, h4, h5⟩ | ⟨h, h1, h2, h3, h4, h5⟩ | ⟨rfl, h1, h2, h3, h4⟩ | ⟨rfl, h1, h2, h3, h4⟩ | ⟨rfl, h1, h2, h3, h4, h5⟩ | ⟨rfl, h1, h2, h3, h4, h5⟩ | ⟨rfl, h1, h2, h3, h4, h5⟩
  · exact o (.inl h) h1 h2 h3
  · exact o (.inr h) h1 h2 h3
  · obtain rfl := nil_of_len h1
    obtain ⟨x, rfl⟩ := one_of_len h2
    subst h3 h4
    have hx : (0 : Int) ≤ (if x = true then 65280 else 0) ∧ (if x = true then (65280 : Int) else 0) < 65536 := by cases x <;> decide
    rw [enc_5, rread_eq (rb1_cons _ _) (rnum_pt at_ ha.1 ha.2 _) (mid1_5 (rnum_pt _ hx.1 hx.2 _)) (mid2_o (by decide) (by decide) (by decide))]
    cases x <;> rfl
  · obtain ⟨x, rfl⟩ := one_of_len h1
    obtain rfl := nil_of_len h2
    subst h3 h4
    have hx := hws x (by simp)
    rw [enc_6, rread_eq (rb1_cons _ _) (rnum_pt at_ ha.1 ha.2 _) (mid1_6 (rnum_pt _ hx.1 hx.2 _)) (mid2_o (by decide) (by decide) (by decide))]
    rfl
  · obtain rfl := nil_of_len h1
    subst h3
    have hb : rbits ([((pk bs).length : Int) % 256] ++ pk bs) false (wrap64 many) = (bs, [], false) := by
      rw [wrap64_16 hm.1 hm.2, h2]
      exact rbits_pk bs (by omega)
    rw [enc_15, rread_eq (rb1_cons _ _) (rnum_pt at_ ha.1 ha.2 _) (mid1_o (rnum_pt many hm.1 hm.2 _) (by decide) (by decide)) (mid2_15 hb)]
    rfl
  · obtain rfl := nil_of_len h1
    subst h3
    rw [enc_16, rread_eq (rb1_cons _ _) (rnum_pt at_ ha.1 ha.2 _) (mid1_o (rnum_pt many hm.1 hm.2 _) (by decide) (by decide)) (mid2_16 (rwords_pt ws hws (by omega)))]
    rfl
  · obtain rfl := nil_of_len h1
    have hn : IntKind.u16.wrap (ws.length : Int) = (ws.length : Int) := by simp [IntKind.wrap, IntKind.bits, IntKind.signed]; omega
    rw [enc_23 hn, rread_eq (rb1_cons _ _) (rnum_pt at_ ha.1 ha.2 _) (mid1_o (rnum_pt many hm.1 hm.2 _) (by decide) (by decide)) (mid2_23 (rnum_pt to_ ht.1 ht.2 _) (rnum_pt (ws.length : Int) (by omega) (by omega) _) (rwords_pt ws hws (by omega))), wrap64_16 (by omega) (by omega)]
    simp
end Go.Proofs.Ytiaibplflmjohaa.GAskB
