/- What ask.read takes for a right request is what ask.Bytes says of it. -/
import Derived.Test.YtiaibplflmjohaaGAskB
namespace Go.Proofs.Ytiaibplflmjohaa.GAskB
open Go.RowKit Go.Proofs.Ytiaibplflmjohaa.P Go.Proofs.YtiaibplflmjohaaW.PrintWords Go.Proofs.YtiaibplflmjohaaW.PrintLast Go.Proofs.Ytiaibplflmjohaa.GAskP Go.Proofs.Ytiaibplflmjohaa.GAsk Go.Proofs.Ytiaibplflmjohaa.GRead
set_option linter.unusedVariables false
set_option linter.unusedSimpArgs false
def bytes (l : List Int) : Prop := ∀ x ∈ l, 0 ≤ x ∧ x < 256
theorem rb1_inv {l t : List Int} {b : Bool} {v : Int} (h : rb1 l b = (v, t, false)) : b = false ∧ l = v :: t := by
  unfold rb1 at h
  cases b with
  | true => simp at h
  | false =>
    cases l with
    | nil => simp at h
    | cons x l =>
      simp [rd] at h
      exact ⟨rfl, by rw [h.1, h.2]⟩
theorem rnum_inv {l t : List Int} {b : Bool} {v : Int} (hb : bytes l) (h : rnum l b = (v, t, false)) : b = false ∧ l = pt [v] ++ t ∧ (0 ≤ v ∧ v < 65536) ∧ bytes t := by
  unfold rnum at h
  rcases h1 : rb1 l b with ⟨x, t1, b1⟩
  rcases h2 : rb1 t1 b1 with ⟨y, t2, b2⟩
  simp only [h1, h2, Prod.mk.injEq] at h
  obtain ⟨h3, rfl, rfl⟩ := h
  obtain ⟨rfl, rfl⟩ := rb1_inv h2
  obtain ⟨rfl, rfl⟩ := rb1_inv h1
  have hx := hb x (by simp)
  have hy := hb y (by simp)
  rw [two_bytes _ _ hx.1 hx.2 hy.1 hy.2] at h3
  refine ⟨rfl, ?_, by omega, fun z hz => hb z (by simp [hz])⟩
  rw [pt_cons, pt_nil, show v / 256 % 256 = x by omega, show v % 256 = y by omega]
  rfl
theorem rrest_inv {l t d : List Int} {b : Bool} (h : rrest l b = (d, t, false)) : b = false ∧ t = [] ∧ ∃ n, l = n :: d ∧ wrap64 n = d.length := by
  unfold rrest at h
  rcases h1 : rb1 l b with ⟨x, t1, b1⟩
  simp only [h1] at h
  cases b1 with
  | true => simp at h
  | false =>
    simp only [Bool.false_eq_true, if_false] at h
    by_cases c : wrap64 x = (t1.length : Int)
    · rw [if_pos c] at h
      simp only [Prod.mk.injEq] at h
      obtain ⟨rfl, rfl, _⟩ := h
      obtain ⟨rfl, rfl⟩ := rb1_inv h1
      exact ⟨rfl, rfl, x, rfl, c⟩
    · rw [if_neg c] at h
      simp at h
theorem pairs_inv : ∀ (d ws : List Int), bytes d → pairsF d = (ws, false) → pt ws = d ∧ ∀ x ∈ ws, 0 ≤ x ∧ x < 65536
  | [], ws, _, h => by
    simp only [pairsF, Prod.mk.injEq] at h
    obtain ⟨rfl, _⟩ := h
    exact ⟨rfl, by simp⟩
  | [x], ws, _, h => by simp [pairsF] at h
  | x :: y :: t, ws, hb, h => by
    rcases hp : pairsF t with ⟨q, c⟩
    rw [pairsF, hp] at h
    simp only [Prod.mk.injEq] at h
    obtain ⟨rfl, rfl⟩ := h
    obtain ⟨h1, h2⟩ := pairs_inv t q (fun z hz => hb z (by simp [hz])) hp
    have hx := hb x (by simp)
    have hy := hb y (by simp)
    have e := two_bytes _ _ hx.1 hx.2 hy.1 hy.2
    rw [e]
    refine ⟨?_, ?_⟩
    · rw [pt_cons, h1, show (256 * x + y) / 256 % 256 = x by omega, show (256 * x + y) % 256 = y by omega]
    · intro z hz
      rcases List.mem_cons.1 hz with rfl | hz
      · omega
      · exact h2 z hz
theorem rwords_inv {l t ws : List Int} {b : Bool} (hb : bytes l) (h : rwords l b = (ws, t, false)) (hn : ws.length ≤ 127) : b = false ∧ t = [] ∧ l = [((pt ws).length : Int) % 256] ++ pt ws ∧ ∀ x ∈ ws, 0 ≤ x ∧ x < 65536 := by
  unfold rwords at h
  rcases h1 : rrest l b with ⟨d, t1, b1⟩
  simp only [h1, Prod.mk.injEq] at h
  obtain ⟨h2, rfl, h3⟩ := h
  rw [Bool.or_eq_false_iff] at h3
  obtain ⟨rfl, h3⟩ := h3
  obtain ⟨rfl, rfl, n, rfl, hn2⟩ := rrest_inv h1
  have hd : bytes d := fun z hz => hb z (by simp [hz])
  obtain ⟨e, hw⟩ := pairs_inv d ws hd (Prod.ext h2 h3)
  refine ⟨rfl, rfl, ?_, hw⟩
  have hx := hb n (by simp)
  have : wrap64 n = n := by unfold wrap64; omega
  rw [e]
  rw [show (d.length : Int) % 256 = n by rw [← hn2, this]; omega]
  rfl
theorem any_false {l : List Bool} (h : l.any id = false) : l = List.replicate l.length false := by
  induction l with
  | nil => rfl
  | cons x l ih =>
    simp only [List.any_cons, id, Bool.or_eq_false_iff] at h
    obtain ⟨rfl, h2⟩ := h
    rw [List.length_cons, List.replicate_succ, ← ih h2]
theorem pk_pad (l : List Bool) (n m : Nat) (hn : n ≤ l.length) (hm : l.length = 8 * m) (hq : (n + 7) / 8 = m) (h : (l.drop n).any id = false) : pk (l.take n) = pk l := by
  have hz : ∀ x, n ≤ x → g l x = false := fun x hx => by
    have e := any_false h
    have : g l x = g (l.drop n) (x - n) := by
      unfold g
      rw [List.getD_eq_getElem?_getD, List.getD_eq_getElem?_getD, List.getElem?_drop, show n + (x - n) = x by omega]
    rw [this, e]
    unfold g
    rw [List.getD_eq_getElem?_getD, List.getElem?_replicate]
    split <;> rfl
  have hg : ∀ x, g (l.take n) x = g l x := fun x => by
    rw [g_take]
    split
    · rfl
    · rw [hz x (by omega)]
  unfold pk
  rw [show (l.take n).length = n by simp; omega, hq, hm, show (8 * m + 7) / 8 = m by omega]
  congr 1
  funext j
  unfold pkB
  simp only [hg]
theorem rbits_inv {l t : List Int} {bs : List Bool} {b : Bool} {n : Nat} (hb : bytes l) (hn1 : n ≤ 2000) (hn0 : 1 ≤ n) (h : rbits l b (n : Int) = (bs, t, false)) : b = false ∧ t = [] ∧ l = [((pk bs).length : Int) % 256] ++ pk bs := by
  unfold rbits at h
  rcases h1 : rrest l b with ⟨d, t1, b1⟩
  simp only [h1] at h
  cases b1 with
  | true => simp at h
  | false =>
    have e7 : wrap64 ((n : Int) + 7) = (n : Int) + 7 := by unfold wrap64; omega
    have e8 : wrap64 (Int.tdiv ((n : Int) + 7) 8) = (((n + 7) / 8 : Nat) : Int) := by
      rw [Int.tdiv_eq_ediv_of_nonneg (by omega)]
      unfold wrap64
      omega
    simp only [Bool.false_eq_true, if_false] at h
    rw [e7, e8] at h
    by_cases c : (d.length : Int) = (((n + 7) / 8 : Nat) : Int)
    · rw [if_neg (by simp [c])] at h
      simp only [Int.toNat_natCast] at h
      by_cases c2 : ((unp d).drop n).any id = true
      · rw [if_pos c2] at h
        simp at h
      · rw [if_neg c2] at h
        simp only [Prod.mk.injEq] at h
        obtain ⟨rfl, rfl, _⟩ := h
        obtain ⟨rfl, rfl, x, rfl, hx2⟩ := rrest_inv h1
        have hd : bytes d := fun z hz => hb z (by simp [hz])
        have hul := unp_len d
        have e := pk_pad (unp d) n d.length (by omega) hul (by omega) (by simpa using c2)
        rw [e, pk_unp d hd]
        have hx := hb x (by simp)
        have : wrap64 x = x := by unfold wrap64; omega
        refine ⟨rfl, rfl, ?_⟩
        rw [show (d.length : Int) % 256 = x by rw [← hx2, this]; omega]
        rfl
    · rw [if_pos c] at h
      simp at h
theorem mid1_inv {l t : List Int} {f many : Int} {b : Bool} {ws : List Int} {bs : List Bool} (hb : bytes l) (h : mid1 f l b = (many, ws, bs, t, false)) : b = false ∧ bytes t ∧
    ((f = 5 ∧ ∃ x, l = pt [x] ++ t ∧ many = 0 ∧ ws = [] ∧ bs = [x == 65280] ∧ (x = 65280 ∨ x = 0)) ∨ (f = 6 ∧ ∃ x, (0 ≤ x ∧ x < 65536) ∧ l = pt [x] ++ t ∧ many = 0 ∧ ws = [x] ∧ bs = []) ∨ (f ≠ 5 ∧ f ≠ 6 ∧ (0 ≤ many ∧ many < 65536) ∧ l = pt [many] ++ t ∧ ws = [] ∧ bs = [])) := by
  rcases hn : rnum l b with ⟨x, t1, b1⟩
  by_cases f5 : f = 5
  · subst f5
    rw [mid1_5 hn] at h
    simp only [Prod.mk.injEq] at h
    obtain ⟨rfl, rfl, rfl, rfl, h⟩ := h
    rw [Bool.or_eq_false_iff] at h
    obtain ⟨rfl, h⟩ := h
    obtain ⟨rfl, rfl, hx, ht⟩ := rnum_inv hb hn
    refine ⟨rfl, ht, .inl ⟨rfl, x, rfl, rfl, rfl, rfl, ?_⟩⟩
    simp at h
    by_cases c : x = 65280
    · exact .inl c
    · exact .inr (h c)
  · by_cases f6 : f = 6
    · subst f6
      rw [mid1_6 hn] at h
      simp only [Prod.mk.injEq] at h
      obtain ⟨rfl, rfl, rfl, rfl, rfl⟩ := h
      obtain ⟨rfl, rfl, hx, ht⟩ := rnum_inv hb hn
      exact ⟨rfl, ht, .inr (.inl ⟨rfl, x, hx, rfl, rfl, rfl, rfl⟩)⟩
    · rw [mid1_o hn f5 f6] at h
      simp only [Prod.mk.injEq] at h
      obtain ⟨rfl, rfl, rfl, rfl, rfl⟩ := h
      obtain ⟨rfl, rfl, hx, ht⟩ := rnum_inv hb hn
      exact ⟨rfl, ht, .inr (.inr ⟨f5, f6, hx, rfl, rfl, rfl⟩)⟩
theorem rread_inv {l : List Int} {f a many to_ : Int} {ws : List Int} {bs : List Bool} (h : rread l = (f, a, many, to_, ws, bs, true)) :
    ∃ t1 b1 t2 b2 ws1 bs1 t3 b3, rb1 l false = (f, t1, b1) ∧ rnum t1 b1 = (a, t2, b2) ∧ mid1 f t2 b2 = (many, ws1, bs1, t3, b3) ∧ mid2 f many ws1 bs1 t3 b3 = (to_, ws, bs, [], false) := by
  rcases h1 : rb1 l false with ⟨f', t1, b1⟩
  rcases h2 : rnum t1 b1 with ⟨a', t2, b2⟩
  rcases h3 : mid1 f' t2 b2 with ⟨many', ws1, bs1, t3, b3⟩
  rcases h4 : mid2 f' many' ws1 bs1 t3 b3 with ⟨to', ws2, bs2, t4, b4⟩
  rw [rread_eq h1 h2 h3 h4] at h
  simp only [Prod.mk.injEq, Bool.and_eq_true, Bool.not_eq_true', beq_iff_eq] at h
  obtain ⟨rfl, rfl, rfl, rfl, rfl, rfl, rfl, h5⟩ := h
  obtain rfl := nil_of_len (by omega : t4.length = 0)
  exact ⟨t1, b1, t2, b2, ws1, bs1, t3, b3, rfl, h2, h3, h4⟩
theorem enc_read {l : List Int} {f a many to_ : Int} {ws : List Int} {bs : List Bool} (hb : bytes l) (h : rread l = (f, a, many, to_, ws, bs, true)) (hr : rightP f many to_ ws.length bs.length) :
    enc f a many to_ ws bs = l ∧ wfA f a many to_ ws bs := by
  obtain ⟨t1, b1, t2, b2, ws1, bs1, t3, b3, h1, h2, h3, h4⟩ := rread_inv h
  have hb3 : b3 = false → b1 = false ∧ l = f :: t1 ∧ b2 = false ∧ t1 = pt [a] ++ t2 ∧ (0 ≤ a ∧ a < 65536) ∧ (0 ≤ f ∧ f < 256) ∧ bytes t2 := fun e => by
    subst e
    have hq : b2 = false := by
      cases b2 with
      | false => rfl
      | true =>
        exfalso
        rcases hn : rnum t2 true with ⟨x, t, c⟩
        have hc : c = true := by
          unfold rnum rb1 at hn
          simp at hn
          exact hn.2.2
        subst hc
        by_cases f5 : f = 5
        · subst f5; rw [mid1_5 hn] at h3; simp at h3
        · by_cases f6 : f = 6
          · subst f6; rw [mid1_6 hn] at h3; simp at h3
          · rw [mid1_o hn f5 f6] at h3; simp at h3
    subst hq
    have hq1 : b1 = false := by
      cases b1 with
      | false => rfl
      | true =>
        unfold rnum rb1 at h2
        simp at h2
    subst hq1
    obtain ⟨_, rfl⟩ := rb1_inv h1
    have hf := hb f (by simp)
    obtain ⟨_, rfl, ha, ht2⟩ := rnum_inv (fun z hz => hb z (by simp [hz])) h2
    exact ⟨rfl, rfl, rfl, rfl, ha, hf, ht2⟩
  have o : ((f = 1 ∨ f = 2) ∨ (f = 3 ∨ f = 4)) → to_ = 0 → enc f a many to_ ws bs = l ∧ wfA f a many to_ ws bs := fun hh h0 => by
    rw [mid2_o (by omega) (by omega) (by omega)] at h4
    simp only [Prod.mk.injEq] at h4
    obtain ⟨_, rfl, rfl, rfl, rfl⟩ := h4
    obtain ⟨_, rfl, rfl, rfl, ha, hf, ht2⟩ := hb3 rfl
    obtain ⟨_, _, hm⟩ := mid1_inv ht2 h3
    rcases hm with ⟨e, _⟩ | ⟨e, _⟩ | ⟨_, _, hm, rfl, rfl, rfl⟩
    · omega
    · omega
    · exact ⟨by rw [enc_o (by omega) (by omega) (by omega) (by omega) (by omega)], hf, ha, hm, by omega, by simp⟩
  rcases hr with ⟨hh, g1, g2, g3, g4, g5⟩ | ⟨hh, g1, g2, g3, g4, g5⟩ | ⟨rfl, g1, g2, g3, g4⟩ | ⟨rfl, g1, g2, g3, g4⟩ | ⟨rfl, g1, g2, g3, g4, g5⟩ | ⟨rfl, g1, g2, g3, g4, g5⟩ | ⟨rfl, g1, g2, g3, g4, g5⟩
  · exact o (.inl hh) g3
  · exact o (.inr hh) g3
  · rw [mid2_o (by decide) (by decide) (by decide)] at h4
    simp only [Prod.mk.injEq] at h4
    obtain ⟨rfl, rfl, rfl, rfl, rfl⟩ := h4
    obtain ⟨_, rfl, rfl, rfl, ha, hf, ht2⟩ := hb3 rfl
    obtain ⟨_, _, hm⟩ := mid1_inv ht2 h3
    rcases hm with ⟨_, x, rfl, rfl, rfl, rfl, hx⟩ | ⟨e, _⟩ | ⟨e, _⟩
    · refine ⟨?_, hf, ha, by decide, by decide, by simp⟩
      rw [enc_5]
      rcases hx with rfl | rfl <;> rfl
    · exact absurd e (by decide)
    · exact absurd rfl e
  · rw [mid2_o (by decide) (by decide) (by decide)] at h4
    simp only [Prod.mk.injEq] at h4
    obtain ⟨rfl, rfl, rfl, rfl, rfl⟩ := h4
    obtain ⟨_, rfl, rfl, rfl, ha, hf, ht2⟩ := hb3 rfl
    obtain ⟨_, _, hm⟩ := mid1_inv ht2 h3
    rcases hm with ⟨e, _⟩ | ⟨_, x, hx, rfl, rfl, rfl, rfl⟩ | ⟨_, e, _⟩
    · exact absurd e (by decide)
    · exact ⟨enc_6, hf, ha, by decide, by decide, by simpa using hx⟩
    · exact absurd rfl e
  · have hmr := mid1_many 15 t2 b2
    rw [h3] at hmr
    rcases hq : rbits t3 b3 (wrap64 many) with ⟨bs2, t, c⟩
    rw [mid2_15 hq] at h4
    simp only [Prod.mk.injEq] at h4
    obtain ⟨rfl, rfl, rfl, rfl, rfl⟩ := h4
    rw [wrap64_16 hmr.1 hmr.2, g2] at hq
    have hb3' : b3 = false := by
      cases b3 with
      | false => rfl
      | true => simp [rbits, rrest, rb1] at hq
    obtain ⟨_, rfl, rfl, rfl, ha, hf, ht2⟩ := hb3 hb3'
    subst hb3'
    obtain ⟨_, ht3, hm⟩ := mid1_inv ht2 h3
    obtain ⟨_, _, rfl⟩ := rbits_inv ht3 (by omega) (by omega) hq
    rcases hm with ⟨e, _⟩ | ⟨e, _⟩ | ⟨_, _, hm, rfl, rfl, rfl⟩
    · exact absurd e (by decide)
    · exact absurd e (by decide)
    · exact ⟨enc_15, hf, ha, hm, by decide, by simp⟩
  · rcases hq : rwords t3 b3 with ⟨ws2, t, c⟩
    rw [mid2_16 hq] at h4
    simp only [Prod.mk.injEq] at h4
    obtain ⟨rfl, rfl, rfl, rfl, rfl⟩ := h4
    have hb3' : b3 = false := by
      cases b3 with
      | false => rfl
      | true => simp [rwords, rrest, rb1] at hq
    obtain ⟨_, rfl, rfl, rfl, ha, hf, ht2⟩ := hb3 hb3'
    subst hb3'
    obtain ⟨_, ht3, hm⟩ := mid1_inv ht2 h3
    obtain ⟨_, _, rfl, hws⟩ := rwords_inv ht3 hq (by omega)
    rcases hm with ⟨e, _⟩ | ⟨e, _⟩ | ⟨_, _, hm, rfl, rfl, rfl⟩
    · exact absurd e (by decide)
    · exact absurd e (by decide)
    · exact ⟨enc_16, hf, ha, hm, by decide, hws⟩
  · rcases q1 : rnum t3 b3 with ⟨to', u1, c1⟩
    rcases q2 : rnum u1 c1 with ⟨n, u2, c2⟩
    rcases q3 : rwords u2 c2 with ⟨ws2, u3, c3⟩
    rw [mid2_23 q1 q2 q3] at h4
    simp only [Prod.mk.injEq] at h4
    obtain ⟨rfl, rfl, rfl, rfl, h5⟩ := h4
    rw [Bool.or_eq_false_iff] at h5
    obtain ⟨rfl, h5⟩ := h5
    have hc2 : c2 = false := by
      cases c2 with
      | false => rfl
      | true => simp [rwords, rrest, rb1] at q3
    subst hc2
    have hc1 : c1 = false := by
      cases c1 with
      | false => rfl
      | true => simp [rnum, rb1] at q2
    subst hc1
    have hb3' : b3 = false := by
      cases b3 with
      | false => rfl
      | true => simp [rnum, rb1] at q1
    obtain ⟨_, rfl, rfl, rfl, ha, hf, ht2⟩ := hb3 hb3'
    subst hb3'
    obtain ⟨_, ht3, hm⟩ := mid1_inv ht2 h3
    obtain ⟨_, rfl, hto, hu1⟩ := rnum_inv ht3 q1
    obtain ⟨_, rfl, hn, hu2⟩ := rnum_inv hu1 q2
    obtain ⟨_, _, rfl, hws⟩ := rwords_inv hu2 q3 (by omega)
    have hnn : n = (ws2.length : Int) := by
      have : wrap64 n = n := wrap64_16 hn.1 hn.2
      rw [this] at h5
      simpa [bne] using h5
    subst hnn
    rcases hm with ⟨e, _⟩ | ⟨e, _⟩ | ⟨_, _, hm, rfl, rfl, rfl⟩
    · exact absurd e (by decide)
    · exact absurd e (by decide)
    · have hw : IntKind.u16.wrap (ws2.length : Int) = (ws2.length : Int) := by simp [IntKind.wrap, IntKind.bits, IntKind.signed]; omega
      exact ⟨enc_23 hw, hf, ha, hm, hto, hws⟩
end Go.Proofs.Ytiaibplflmjohaa.GAskB
