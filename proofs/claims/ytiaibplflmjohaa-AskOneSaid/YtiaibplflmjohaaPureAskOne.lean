/- AskOne: what is read is right, and is said just so; unlike requests have unlike bytes. More than the law's bounds: let by. -/
import Derived.Test.YtiaibplflmjohaaPx25
import Derived.Test.YtiaibplflmjohaaGAskS
import Derived.OpenShut
namespace Go.Proofs.Ytiaibplflmjohaa.Pure
open Go.RowKit Go.Proofs.Ytiaibplflmjohaa.P Go.Proofs.YtiaibplflmjohaaW.PrintWords Go.Proofs.YtiaibplflmjohaaW.PrintLast Go.Proofs.Ytiaibplflmjohaa.GAskB Go.Proofs.Ytiaibplflmjohaa.GAsk
set_option linter.unusedVariables false
theorem awake_f (k : Nat) : (saucierlaw02_awake.f).bind (fun t => some t) = some true := rfl
theorem AskOne_j1 (k : Nat) (hk : 3000 ≤ k) {f a m t f' a' m' t' : Int} {ws ws' : List Int} {bs bs' : List Bool} (h : wfR f a m t ws bs) (h' : wfR f' a' m' t' ws' bs') : saucierlaw02_AskOne.j1 (k + 1) f a m t ws bs f' a' m' t' ws' bs' = some true := by
  rw [saucierlaw02_AskOne.j1, bytes_f h (by omega), bytes_f h' (by omega), Option.bind_some, Option.bind_some]
  by_cases c : rightB f m t ws.length bs.length = true
  · by_cases c' : rightB f' m' t' ws'.length bs'.length = true
    · rw [if_pos c, if_pos c']
      simp only [if_true]
      rw [lsame_f (enc_byte h.1.1) (enc_byte h'.1.1), Option.bind_some, same_f _ _ _ _ _ _ _ _ _ _ _ _ (by have := h.2; omega) (by have := h.2; omega) (by have := h.2; omega) (by have := h.2; omega), Option.bind_some]
      have key : enc f a m t ws bs = enc f' a' m' t' ws' bs' ↔ (f, a, m, t, ws, bs) = (f', a', m', t', ws', bs') := by
        constructor
        · intro he
          have p := (right_iff f m t ws.length bs.length h.1.2.2.1.1 h.1.2.2.1.2 (by have := h.2; omega) (by have := h.2; omega)).1 c
          have p' := (right_iff f' m' t' ws'.length bs'.length h'.1.2.2.1.1 h'.1.2.2.1.2 (by have := h'.2; omega) (by have := h'.2; omega)).1 c'
          have r := read_enc h.1 p
          have r' := read_enc h'.1 p'
          rw [he, r'] at r
          simp only [Prod.mk.injEq] at r ⊢
          obtain ⟨r1, r2, r3, r4, r5, r6, _⟩ := r
          exact ⟨r1.symm, r2.symm, r3.symm, r4.symm, r5.symm, r6.symm⟩
        · intro he
          simp only [Prod.mk.injEq] at he
          obtain ⟨rfl, rfl, rfl, rfl, rfl, rfl⟩ := he
          rfl
      rw [show decide (enc f a m t ws bs = enc f' a' m' t' ws' bs') = decide ((f, a, m, t, ws, bs) = (f', a', m', t', ws', bs')) from decide_eq_decide.2 key, if_pos (beq_self_eq_true _)]
      rfl
    · rw [if_pos c, if_neg c']
      rfl
  · rw [if_neg c]
    rfl
theorem AskOne_j0 (k : Nat) (hk : 3000 ≤ k) (x : List Int) (hb : GAskB.bytes x) (flag : Bool) (hl : flag = false → x.length ≤ 300) {f a m t f' a' m' t' : Int} {ws ws' : List Int} {bs bs' : List Bool} (h : flag = false → wfR f a m t ws bs) (h' : flag = false → wfR f' a' m' t' ws' bs') :
    saucierlaw02_AskOne.j0 (k + 2) x flag f a m t ws bs f' a' m' t' ws' bs' = some true := by
  rw [saucierlaw02_AskOne.j0]
  cases flag with
  | true => rfl
  | false =>
    rw [if_neg (by simp)]
    rcases parse_cases hb (by have := hl rfl; omega) with ⟨g, b, n, u, vs, cs, h1, h2, h3, h4⟩ | ⟨h1, _⟩
    · rw [h1, Option.bind_some]
      simp only [if_true]
      rw [bytes_f h2 (by omega), Option.bind_some, if_pos h3]
      unfold ask_Right.f
      rw [Option.bind_some, if_pos h3]
      simp only [if_true]
      rw [h4, lsame_f hb hb, Option.bind_some, if_pos (by simp)]
      exact AskOne_j1 k hk (h rfl) (h' rfl)
    · rw [h1, Option.bind_some]
      rw [if_neg (by decide)]
      exact AskOne_j1 k hk (h rfl) (h' rfl)
theorem wf_R {f a m t : Int} {ws : List Int} {bs : List Bool} (h : wf26 (⟨f, a, m, t, ws, bs⟩ : S26)) (h1 : ws.length ≤ 200) (h2 : bs.length ≤ 2100) : wfR f a m t ws bs := by
  obtain ⟨w0, w1, w2, w3, w4, w5⟩ := h
  have b0 := bounds_u8 w0
  have b1 := bounds_u16 w1
  have b2 := bounds_u16 w2
  have b3 := bounds_u16 w3
  dsimp only at b0 b1 b2 b3
  exact ⟨⟨by omega, by omega, by omega, by omega, fun x hx => by have := bounds_u16 (w4.2.2 x hx); omega⟩, h1, h2⟩
theorem few_f (ws : List Int) (bs : List Bool) : saucierlow_Few.f ws bs = some (decide (ws.length ≤ 200 ∧ bs.length ≤ 2100)) := by
  unfold saucierlow_Few.f
  by_cases c : (ws.length : Int) ≤ 200
  · rw [if_pos c]
    congr 1
    rw [decide_eq_decide]
    omega
  · rw [if_neg c]
    congr 1
    symm
    rw [decide_eq_false_iff_not]
    omega
theorem AskOne : saucierlaw02_AskOne.Pure := by
  intro l0 f a m t ws bs f' a' m' t' ws' bs' _ _ hb hw hw'
  refine ⟨5002, ?_⟩
  have hb' : GAskB.bytes l0 := fun x hx => by have := bounds_u8 (hb x hx); omega
  unfold saucierlaw02_AskOne.f
  rw [few_f, few_f, Option.bind_some, Option.bind_some]
  by_cases c : ws.length ≤ 200 ∧ bs.length ≤ 2100
  · rw [if_pos (by simpa using c)]
    by_cases c' : ws'.length ≤ 200 ∧ bs'.length ≤ 2100
    · rw [if_pos (by simpa using c')]
      exact AskOne_j0 5000 (by omega) l0 hb' _ (fun h => by have := of_decide_eq_false h; omega) (fun _ => wf_R hw c.1 c.2) (fun _ => wf_R hw' c'.1 c'.2)
    · rw [if_neg (by simpa using c')]
      exact AskOne_j0 5000 (by omega) l0 hb' true (fun h => by cases h) (fun h => by cases h) (fun h => by cases h)
  · rw [if_neg (by simpa using c)]
    exact AskOne_j0 5000 (by omega) l0 hb' true (fun h => by cases h) (fun h => by cases h) (fun h => by cases h)
end Go.Proofs.Ytiaibplflmjohaa.Pure
