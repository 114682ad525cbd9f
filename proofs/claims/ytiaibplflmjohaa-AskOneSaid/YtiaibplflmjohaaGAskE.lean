/- What ask.Bytes, ask.Parse, ask.Same answer, of requests as the laws hand them in. -/
import Derived.Test.YtiaibplflmjohaaGAskD
import Derived.Test.YtiaibplflmjohaaPx11
import Derived.Test.YtiaibplflmjohaaPx6
import Derived.Test.YtiaibplflmjohaaPx1
import Derived.Test.YtiaibplflmjohaaPx15
namespace Go.Proofs.Ytiaibplflmjohaa.GAskB
open Go.RowKit Go.Proofs.Ytiaibplflmjohaa.P Go.Proofs.YtiaibplflmjohaaW.PrintWords Go.Proofs.YtiaibplflmjohaaW.PrintLast Go.Proofs.Ytiaibplflmjohaa.GAskP Go.Proofs.Ytiaibplflmjohaa.GAsk Go.Proofs.Ytiaibplflmjohaa.GRead
set_option linter.unusedVariables false
set_option linter.unusedSimpArgs false
def wfR (f at_ many to_ : Int) (ws : List Int) (bs : List Bool) : Prop := wfA f at_ many to_ ws bs ∧ ws.length ≤ 200 ∧ bs.length ≤ 2100
theorem pt_app (l m : List Int) : pt (l ++ m) = pt l ++ pt m := by simp [pt]
theorem bytes_f {f at_ many to_ : Int} {ws : List Int} {bs : List Bool} (hw : wfR f at_ many to_ ws bs) {k : Nat} (hk : 2200 ≤ k) :
    ask_Bytes.f k f at_ many to_ ws bs = some (if rightB f many to_ ws.length bs.length = true then (enc f at_ many to_ ws bs, 0) else ([], 12)) := by
  obtain ⟨⟨hf, ha, hm, ht, hws⟩, hl1, hl2⟩ := hw
  unfold ask_Bytes.f ask_Right.f
  rw [Option.bind_some]
  by_cases hr : rightB f many to_ ws.length bs.length = true
  · rw [if_pos hr, if_pos hr]
    have hp := (right_iff f many to_ ws.length bs.length hm.1 hm.2 (by omega) (by omega)).1 hr
    have hpl := pt_len ws
    have hkl := pk_len bs
    rw [put_f _ _ (by simp) (by simp) (by simp; omega), Option.bind_some]
    have e1 : ([f] : List Int) ++ pt [at_] = f :: (pt [at_] ++ []) := by simp
    by_cases f5 : f = 5
    · subst f5
      have hb1 : bs.length = 1 := by
        rcases hp with h | h | h | h | h | h | h <;> omega
      obtain ⟨x, rfl⟩ := one_of_len hb1
      rw [if_pos rfl, if_pos (by simp), enc_5]
      cases x with
      | true =>
        rw [if_pos (by rfl), put_f _ _ (by simp) (by simp [pt]) (by simp; omega), Option.bind_some]
        simp
      | false =>
        rw [if_neg (by simp [rdOf]), put_f _ _ (by simp) (by simp [pt]) (by simp; omega), Option.bind_some]
        simp
    · rw [if_neg f5]
      by_cases f6 : f = 6
      · subst f6
        have hb1 : ws.length = 1 := by
          rcases hp with h | h | h | h | h | h | h <;> omega
        obtain ⟨x, rfl⟩ := one_of_len hb1
        rw [if_pos rfl, if_pos (by simp), put_f _ _ (by simp) (by simp [pt]) (by simp; omega), Option.bind_some, enc_6]
        simp [rd]
      · rw [if_neg f6, put_f _ _ (by simp) (by simp [pt]) (by simp; omega), Option.bind_some]
        by_cases f15 : f = 15
        · subst f15
          rw [if_pos rfl, pack_f _ (by omega) (by omega), Option.bind_some, counted_f _ _ (by simp [pt]) (by omega), Option.bind_some, enc_15]
          simp
        · rw [if_neg f15]
          by_cases f16 : f = 16
          · subst f16
            rw [if_pos rfl, put_f [] ws (by omega) (by simp) (by omega), Option.bind_some, List.nil_append, counted_f _ _ (by simp [pt]) (by omega), Option.bind_some, enc_16]
            simp
          · rw [if_neg f16]
            by_cases f23 : f = 23
            · subst f23
              have hn : IntKind.u16.wrap (ws.length : Int) = (ws.length : Int) := by simp [IntKind.wrap, IntKind.bits, IntKind.signed]; omega
              rw [if_pos rfl, hn, put_f _ _ (by simp) (by simp [pt]) (by simp; omega), Option.bind_some, put_f [] ws (by omega) (by simp) (by omega), Option.bind_some, List.nil_append, counted_f _ _ (by simp [pt]) (by omega), Option.bind_some, enc_23 hn]
              simp [pt_cons, pt_nil]
            · rw [if_neg f23, enc_o f5 f6 f15 f16 f23]
              simp
  · rw [if_neg hr, if_neg hr]
theorem parse_f {l : List Int} (hl : l.length < 17592186044416) :
    ask_Parse.f l = some (if (rread l).2.2.2.2.2.2 = true ∧ rightB (rread l).1 (rread l).2.2.1 (rread l).2.2.2.1 (rread l).2.2.2.2.1.length (rread l).2.2.2.2.2.1.length = true then ((rread l).1, (rread l).2.1, (rread l).2.2.1, (rread l).2.2.2.1, (rread l).2.2.2.2.1, (rread l).2.2.2.2.2.1, 0) else (0, 0, 0, 0, [], [], 12)) := by
  unfold ask_Parse.f ask_read.f ask_Right.f
  rw [if_pos hl, Option.bind_some]
  by_cases c : (rread l).2.2.2.2.2.2 = true
  · rw [if_pos c, Option.bind_some]
    by_cases d : rightB (rread l).1 (rread l).2.2.1 (rread l).2.2.2.1 (rread l).2.2.2.2.1.length (rread l).2.2.2.2.2.1.length = true
    · rw [if_pos d, if_pos ⟨c, d⟩]
    · rw [if_neg d, if_neg (fun h => d h.2)]
  · rw [if_neg c, if_neg (fun h => c h.1)]
theorem right_small {f many to_ : Int} {nw nb : Nat} (h : rightB f many to_ nw nb = true) : nw ≤ 123 ∧ nb ≤ 1968 := by
  unfold rightB at h
  rcases hk : kindOf f with _ | ⟨kr, kb, kw, ko⟩
  · rw [hk] at h; simp at h
  · rw [hk] at h
    simp only [Bool.and_eq_true] at h
    obtain ⟨⟨⟨h1, h2⟩, _⟩, _⟩ := h
    unfold kindOf at hk
    unfold listedB at h1 h2
    have b : (kb = 0 ∨ kb = 1 ∨ kb = 1968) ∧ (kw = 0 ∨ kw = 1 ∨ kw = 123 ∨ kw = 121) := by
      repeat' (split at hk)
      all_goals simp at hk
      all_goals omega
    constructor
    · by_cases z : kw = 0
      · rw [if_pos z] at h2; simp at h2; omega
      · rw [if_neg z] at h2; simp at h2; omega
    · by_cases z : kb = 0
      · rw [if_pos z] at h1; simp at h1; omega
      · rw [if_neg z] at h1; simp at h1; omega
/-- Either no request at all, or the one whose bytes these are. -/
theorem parse_cases {l : List Int} (hb : bytes l) (hl : l.length ≤ 100000) :
    (∃ f a many to_ ws bs, ask_Parse.f l = some (f, a, many, to_, ws, bs, 0) ∧ wfR f a many to_ ws bs ∧ rightB f many to_ ws.length bs.length = true ∧ enc f a many to_ ws bs = l) ∨
    (ask_Parse.f l = some (0, 0, 0, 0, [], [], 12) ∧ ∀ f a many to_ ws bs, wfR f a many to_ ws bs → rightB f many to_ ws.length bs.length = true → enc f a many to_ ws bs ≠ l) := by
  rw [parse_f (by omega)]
  rcases h : rread l with ⟨f, a, many, to_, ws, bs, ok⟩
  by_cases c : ok = true ∧ rightB f many to_ ws.length bs.length = true
  · left
    obtain ⟨rfl, c⟩ := c
    rw [if_pos ⟨rfl, c⟩]
    obtain ⟨t1, b1, t2, b2, ws1, bs1, t3, b3, h1, h2, h3, h4⟩ := rread_inv h
    have hm := mid1_many f t2 b2
    rw [h3] at hm
    obtain ⟨hs1, hs2⟩ := right_small c
    have hp := (right_iff f many to_ ws.length bs.length hm.1 hm.2 (by omega) (by omega)).1 c
    obtain ⟨he, hw⟩ := enc_read hb h hp
    exact ⟨f, a, many, to_, ws, bs, rfl, ⟨hw, by omega, by omega⟩, c, he⟩
  · right
    rw [if_neg c]
    refine ⟨rfl, fun f' a' many' to' ws' bs' hw hr he => ?_⟩
    have hp := (right_iff f' many' to' ws'.length bs'.length hw.1.2.2.1.1 hw.1.2.2.1.2 (by have := hw.2; omega) (by have := hw.2; omega)).1 hr
    have := read_enc hw.1 hp
    rw [he, h] at this
    simp only [Prod.mk.injEq] at this
    obtain ⟨rfl, rfl, rfl, rfl, rfl, rfl, rfl⟩ := this
    exact c ⟨rfl, hr⟩
end Go.Proofs.Ytiaibplflmjohaa.GAskB
