/- AskBack: what is said of a right request is read as it, is 5 to 253 bytes; nothing less, and nothing more, is one. More than the law's bounds: let by. -/
import Derived.Test.YtiaibplflmjohaaPx24
import Derived.Test.YtiaibplflmjohaaGAskS
import Derived.OpenShut
namespace Go.Proofs.Ytiaibplflmjohaa.PureB
open Go.RowKit Go.Proofs.Ytiaibplflmjohaa.P Go.Proofs.YtiaibplflmjohaaW.PrintWords Go.Proofs.YtiaibplflmjohaaW.PrintLast Go.Proofs.Ytiaibplflmjohaa.GAskB Go.Proofs.Ytiaibplflmjohaa.GAsk Go.Proofs.Ytiaibplflmjohaa.GAskP
set_option linter.unusedVariables false
def L (l : List Int) : Int := if l.getD 0 0 = 15 ∨ l.getD 0 0 = 16 then 6 + l.getD 5 0 else if l.getD 0 0 = 23 then 10 + l.getD 9 0 else 5
theorem enc_L {f a m t : Int} {ws : List Int} {bs : List Bool} (hr : rightP f m t ws.length bs.length) (z : List Int) :
    ((enc f a m t ws bs).length : Int) = L (enc f a m t ws bs ++ z) ∧ 5 ≤ (enc f a m t ws bs).length ∧ (enc f a m t ws bs).length ≤ 253 ∧ (enc f a m t ws bs).getD 0 0 = f := by
  have hp := pk_len bs
  have hq := pt_len ws
  have o : ((f = 1 ∨ f = 2) ∨ (f = 3 ∨ f = 4)) → ((enc f a m t ws bs).length : Int) = L (enc f a m t ws bs ++ z) ∧ 5 ≤ (enc f a m t ws bs).length ∧ (enc f a m t ws bs).length ≤ 253 ∧ (enc f a m t ws bs).getD 0 0 = f := fun h => by
    have n15 : f ≠ 15 := by omega
    have n16 : f ≠ 16 := by omega
    have n23 : f ≠ 23 := by omega
    rw [enc_o (by omega) (by omega) n15 n16 n23]
    simp [L, pt_cons, pt_nil, n15, n16, n23]
  rcases hr with ⟨hh, g1, g2, g3, g4, g5⟩ | ⟨hh, g1, g2, g3, g4, g5⟩ | ⟨rfl, g1, g2, g3, g4⟩ | ⟨rfl, g1, g2, g3, g4⟩ | ⟨rfl, g1, g2, g3, g4, g5⟩ | ⟨rfl, g1, g2, g3, g4, g5⟩ | ⟨rfl, g1, g2, g3, g4, g5⟩
  · exact o (.inl hh)
  · exact o (.inr hh)
  · obtain ⟨x, rfl⟩ := one_of_len g2
    rw [enc_5]
    simp [L, pt_cons, pt_nil]
  · obtain ⟨x, rfl⟩ := one_of_len g1
    rw [enc_6]
    simp [L, pt_cons, pt_nil]
  · rw [enc_15]
    simp [L, pt_cons, pt_nil]
    omega
  · rw [enc_16]
    simp [L, pt_cons, pt_nil]
    omega
  · have hn : IntKind.u16.wrap (ws.length : Int) = (ws.length : Int) := by simp [IntKind.wrap, IntKind.bits, IntKind.signed]; omega
    rw [enc_23 hn]
    simp [L, pt_cons, pt_nil]
    omega
theorem enc_prefix {f a m t f' a' m' t' : Int} {ws ws' : List Int} {bs bs' : List Bool} (h : rightP f m t ws.length bs.length) (h' : rightP f' m' t' ws'.length bs'.length) (z : List Int) (e : enc f a m t ws bs = enc f' a' m' t' ws' bs' ++ z) : z = [] := by
  have e1 := (enc_L (a := a) h []).1
  have e2 := (enc_L (a := a') h' z).1
  rw [List.append_nil, e, ← e2, List.length_append] at e1
  exact nil_of_len (by omega)
theorem rp {f a m t : Int} {ws : List Int} {bs : List Bool} (h : wfR f a m t ws bs) (c : rightB f m t ws.length bs.length = true) : rightP f m t ws.length bs.length :=
  (right_iff f m t ws.length bs.length h.1.2.2.1.1 h.1.2.2.1.2 (by have := h.2; omega) (by have := h.2; omega)).1 c
theorem parse_enc {f a m t : Int} {ws : List Int} {bs : List Bool} (h : wfR f a m t ws bs) (c : rightB f m t ws.length bs.length = true) : ask_Parse.f (enc f a m t ws bs) = some (f, a, m, t, ws, bs, 0) := by
  have hl := (enc_L (a := a) (rp h c) []).2.2.1
  rw [parse_f (by omega), read_enc h.1 (rp h c), if_pos ⟨rfl, c⟩]
theorem parse_less {f a m t : Int} {ws : List Int} {bs : List Bool} (h : wfR f a m t ws bs) (c : rightB f m t ws.length bs.length = true) (i : Nat) (hi : i < (enc f a m t ws bs).length) : ask_Parse.f ((enc f a m t ws bs).take i) = some (0, 0, 0, 0, [], [], 12) := by
  have hb : GAskB.bytes ((enc f a m t ws bs).take i) := fun x hx => enc_byte h.1.1 x (List.mem_of_mem_take hx)
  have hl := (enc_L (a := a) (rp h c) []).2.2.1
  rcases parse_cases hb (by simp; omega) with ⟨g, b, n, u, vs, cs, h1, h2, h3, h4⟩ | ⟨h1, _⟩
  · exfalso
    have e : enc f a m t ws bs = enc g b n u vs cs ++ (enc f a m t ws bs).drop i := by rw [h4, List.take_append_drop]
    have := enc_prefix (rp h c) (rp h2 h3) _ e
    have hd := congrArg List.length this
    simp at hd
    omega
  · exact h1
theorem parse_more {f a m t : Int} {ws : List Int} {bs : List Bool} (h : wfR f a m t ws bs) (c : rightB f m t ws.length bs.length = true) (z : List Int) (hz : z ≠ []) (hz2 : z.length ≤ 20) (hzb : GAskB.bytes z) : ask_Parse.f (enc f a m t ws bs ++ z) = some (0, 0, 0, 0, [], [], 12) := by
  have hb : GAskB.bytes (enc f a m t ws bs ++ z) := fun x hx => by
    rcases List.mem_append.1 hx with hx | hx
    · exact enc_byte h.1.1 x hx
    · exact hzb x hx
  have hl := (enc_L (a := a) (rp h c) []).2.2.1
  rcases parse_cases hb (by simp; omega) with ⟨g, b, n, u, vs, cs, h1, h2, h3, h4⟩ | ⟨h1, _⟩
  · exact absurd (enc_prefix (rp h2 h3) (rp h c) z h4) hz
  · exact h1
theorem Back_j4 {f a m t : Int} {ws : List Int} {bs : List Bool} (h : wfR f a m t ws bs) (c : rightB f m t ws.length bs.length = true) (x1 : List Int) (k i : Nat) (hi : i < (enc f a m t ws bs).length) (b : Bool) :
    saucierlaw02_AskBack.j4 (k + 1) x1 (enc f a m t ws bs) (i : Int) ((enc f a m t ws bs).length : Int) (i : Int) b = saucierlaw02_AskBack.l1 k x1 (enc f a m t ws bs) ((enc f a m t ws bs).length : Int) ((i + 1 : Nat) : Int) := by
  have hl := (enc_L (a := a) (rp h c) []).2.2.1
  have e : wrap64 ((i : Int) + 1) = ((i + 1 : Nat) : Int) := by unfold wrap64; omega
  rw [saucierlaw02_AskBack.j4, e]
  cases b with
  | true => rw [if_pos rfl, if_pos (by omega), if_pos (by omega), Int.toNat_natCast, parse_less h c i hi, Option.bind_some, if_pos rfl]
  | false => rw [if_neg (by simp)]
theorem Back_l1 {f a m t : Int} {ws : List Int} {bs : List Bool} (h : wfR f a m t ws bs) (c : rightB f m t ws.length bs.length = true) (x1 : List Int) (h20 : x1.length ≤ 20) (hb : GAskB.bytes x1) (d : Nat) : ∀ (k i : Nat), i + d = (enc f a m t ws bs).length →
    saucierlaw02_AskBack.l1 (k + 2 * d + 1) x1 (enc f a m t ws bs) ((enc f a m t ws bs).length : Int) (i : Int) = some true := by
  have hl := (enc_L (a := a) (rp h c) []).2.2.1
  induction d with
  | zero =>
    intro k i hi
    rw [show k + 2 * 0 + 1 = k + 1 by omega, saucierlaw02_AskBack.l1, if_neg (by omega), Option.bind_some, if_pos (by simp; omega), Option.bind_some, List.nil_append, if_pos (by omega)]
    by_cases z : x1 = []
    · subst z
      rw [List.append_nil, parse_enc h c, Option.bind_some, if_pos (by rfl)]
      rfl
    · rw [parse_more h c x1 z h20 hb, Option.bind_some, if_pos (by
        have : x1.length ≠ 0 := fun q => z (nil_of_len q)
        have e2 : ((x1.length : Int) == 0) = false := by simpa using z
        rw [e2]
        rfl)]
      rfl
  | succ d ih =>
    intro k i hi
    have hi' : i < (enc f a m t ws bs).length := by omega
    rw [show k + 2 * (d + 1) + 1 = ((k + 2 * d + 1) + 1) + 1 by omega, saucierlaw02_AskBack.l1, if_pos (by omega)]
    have n := ih k (i + 1) (by omega)
    have s := fun b => (Back_j4 h c x1 (k + 2 * d + 1) i hi' b).trans n
    split
    · exact s true
    · split
      · exact s true
      · exact s _
theorem Back_l0 {f a m t : Int} {ws : List Int} {bs : List Bool} (h : wfR f a m t ws bs) (c : rightB f m t ws.length bs.length = true) (x1 : List Int) (h20 : x1.length ≤ 20) (hb : GAskB.bytes x1) (d : Nat) : ∀ (k i : Nat) (x7 : List Int), i + d = x7.length → x7.length ≤ 253 → 3000 ≤ k →
    saucierlaw02_AskBack.l0 (k + d + 1) x1 (enc f a m t ws bs) 0 x7 0 (x7.length : Int) (i : Int) f a m t ws bs f a m t ws bs = some true := by
  have hl := enc_L (a := a) (rp h c) []
  induction d with
  | zero =>
    intro k i x7 hi h7 hk
    rw [show k + 0 + 1 = k + 1 by omega, saucierlaw02_AskBack.l0, if_neg (by omega), if_pos rfl, if_pos rfl, same_f _ _ _ _ _ _ _ _ _ _ _ _ (by have := h.2; omega) (by have := h.2; omega) (by have := h.2; omega) (by have := h.2; omega), Option.bind_some, if_pos (by simp), if_neg (by omega), if_neg (by omega), if_pos (by omega)]
    have e0 : rd (enc f a m t ws bs) 0 = f := hl.2.2.2
    obtain ⟨k, rfl⟩ : ∃ q, k = (q + 2 * (enc f a m t ws bs).length + 1) + 1 := ⟨k - 2 * (enc f a m t ws bs).length - 2, by omega⟩
    rw [e0, show (f != f) = false by simp, saucierlaw02_AskBack.j2, if_neg (by simp)]
    exact Back_l1 h c x1 h20 hb _ k 0 (by omega)
  | succ d ih =>
    intro k i x7 hi h7 hk
    have e : wrap64 ((i : Int) + 1) = ((i + 1 : Nat) : Int) := by unfold wrap64; omega
    rw [show k + (d + 1) + 1 = (k + d + 1) + 1 by omega, saucierlaw02_AskBack.l0, if_pos (by omega), if_pos (by omega), if_pos (by omega), e]
    have := ih k (i + 1) (x7.set (i : Int).toNat (Go.bits .xor .u8 (rd x7 (i : Int)) 255)) (by simp; omega) (by simp; omega) hk
    rw [List.length_set] at this
    exact this
theorem Back_j0 (x1 : List Int) (hb : GAskB.bytes x1) (flag : Bool) (hl : flag = false → x1.length ≤ 20) {f a m t : Int} {ws : List Int} {bs : List Bool} (h : flag = false → wfR f a m t ws bs) :
    saucierlaw02_AskBack.j0 5000 x1 flag f a m t ws bs = some true := by
  rw [saucierlaw02_AskBack.j0]
  cases flag with
  | true => rfl
  | false =>
    have h := h rfl
    rw [if_neg (by simp), bytes_f h (by omega), Option.bind_some]
    unfold ask_Right.f
    rw [Option.bind_some]
    by_cases c : rightB f m t ws.length bs.length = true
    · have hlen := (enc_L (a := a) (rp h c) []).2.2.1
      rw [if_pos c, if_pos c, Option.bind_some, if_pos (by simp; omega), Option.bind_some, List.nil_append, parse_enc h c, Option.bind_some]
      have := Back_l0 h c x1 (hl rfl) hb (enc f a m t ws bs).length (4998 - (enc f a m t ws bs).length) 0 (enc f a m t ws bs) (by omega) (by omega) (by omega)
      rw [show 4998 - (enc f a m t ws bs).length + (enc f a m t ws bs).length + 1 = 4999 by omega] at this
      exact this
    · rw [if_neg c, if_neg c, if_pos rfl, if_pos (by rfl)]
      rfl
theorem wf_R {f a m t : Int} {ws : List Int} {bs : List Bool} (h : wf26 (⟨f, a, m, t, ws, bs⟩ : S26)) (h1 : ws.length ≤ 200) (h2 : bs.length ≤ 2100) : wfR f a m t ws bs := by
  obtain ⟨w0, w1, w2, w3, w4, w5⟩ := h
  have b0 := bounds_u8 w0
  have b1 := bounds_u16 w1
  have b2 := bounds_u16 w2
  have b3 := bounds_u16 w3
  dsimp only at b0 b1 b2 b3
  exact ⟨⟨by omega, by omega, by omega, by omega, fun x hx => by have := bounds_u16 (w4.2.2 x hx); omega⟩, h1, h2⟩
theorem few_f (ws : List Int) (bs : List Bool) : saucierlow_Few.f ws bs = some (decide (ws.length ≤ 200 ∧ bs.length ≤ 2100)) := by
  unfold saucierlow_Few.f
  by_cases c : (ws.length : Int) ≤ 200
  · rw [if_pos c]
    congr 1
    rw [decide_eq_decide]
    omega
  · rw [if_neg c]
    congr 1
    symm
    rw [decide_eq_false_iff_not]
    omega
end Go.Proofs.Ytiaibplflmjohaa.PureB
namespace Go.Proofs.Ytiaibplflmjohaa.Pure
open Go.RowKit Go.Proofs.Ytiaibplflmjohaa.P Go.Proofs.YtiaibplflmjohaaW.PrintWords Go.Proofs.YtiaibplflmjohaaW.PrintLast Go.Proofs.Ytiaibplflmjohaa.GAskB Go.Proofs.Ytiaibplflmjohaa.GAsk
theorem AskBack : saucierlaw02_AskBack.Pure := by
  intro f a m t ws bs l1 hw _ _ hb
  refine ⟨5000, ?_⟩
  have hb' : GAskB.bytes l1 := fun x hx => by have := bounds_u8 (hb x hx); omega
  unfold saucierlaw02_AskBack.f
  rw [PureB.few_f, Option.bind_some]
  by_cases c : ws.length ≤ 200 ∧ bs.length ≤ 2100
  · rw [if_pos (by simpa using c)]
    exact PureB.Back_j0 l1 hb' _ (fun h => by have := of_decide_eq_false h; omega) (fun _ => PureB.wf_R hw c.1 c.2)
  · rw [if_neg (by simpa using c)]
    exact PureB.Back_j0 l1 hb' true (fun h => by cases h) (fun h => by cases h)
end Go.Proofs.Ytiaibplflmjohaa.Pure
