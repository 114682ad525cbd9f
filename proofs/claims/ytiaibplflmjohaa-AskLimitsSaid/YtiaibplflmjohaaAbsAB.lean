/- The abstract machine: what must hold ahead of code. -/
import Derived.Test.YtiaibplflmjohaaAbsAA
set_option linter.unusedVariables false
set_option linter.unusedSimpArgs false
namespace Go.Abs
open Go Go.RowKit
set_option linter.unusedVariables false
set_option linter.unusedSimpArgs false

def dstOf (ops : Array Oper) (g : Nat) : Option Tmp := (ops[g]?).bind (·.dst)
def cleanK (ops : Array Oper) (d : Option Tmp) (kn : List (Nat × Bool)) : List (Nat × Bool) := kn.filter fun e => decide (dstOf ops e.1 ≠ d)
def cleanS (ops : Array Oper) (d : Option Tmp) (sk : List Nat) : List Nat := sk.filter fun g => decide (dstOf ops g ≠ d)
def setB (ts : Array Value) (d : Tmp) (b : Bool) : Array Value := ts.setIfInBounds d (.bool b)

/-- Both ways of a test. -/
def ifB (b : Bool) (A B : Prop) : Prop :=
  match b with
  | true => A
  | false => B
def condB (v : Value) (A B : Prop) : Prop :=
  match v with
  | .bool b => ifB b A B
  | _ => False
theorem ifB_true (A B : Prop) : ifB true A B = A := rfl
theorem ifB_false (A B : Prop) : ifB false A B = B := rfl
theorem ifB_iff {b : Bool} {A B : Prop} : ifB b A B ↔ (b = true → A) ∧ (b = false → B) := by cases b <;> simp [ifB]
theorem condB_bool (b : Bool) (A B : Prop) : condB (.bool b) A B = ifB b A B := rfl
theorem condB_elim {v : Value} {A B : Prop} (h : condB v A B) : ∃ b, v = .bool b ∧ (b = true → A) ∧ (b = false → B) := by
  cases v <;> simp only [condB] at h
  rename_i b
  exact ⟨b, rfl, ifB_iff.1 h⟩
theorem condB_mono {v : Value} {A B A' B' : Prop} (h : condB v A B) (ha : A → A') (hb : B → B') : condB v A' B' := by
  obtain ⟨b, rfl, h1, h2⟩ := condB_elim h
  exact ifB_iff.2 ⟨fun e => ha (h1 e), fun e => hb (h2 e)⟩
/-- A value under a name. -/
def letK {α : Type} (a : α) (k : α → Prop) : Prop := k a
theorem letK_intro {α : Type} {a : α} {k : α → Prop} (h : ∀ x, x = a → k x) : letK a k := h a rfl

/-- A guard decided: known already, or both ways. -/
def AWg (ops : Array Oper) (g : Nat) (want : Bool) (kn : List (Nat × Bool)) (sk : List Nat) (ts : Array Value) (run skip : List (Nat × Bool) → Array Value → Prop) : Prop :=
  if sk.contains g then skip kn ts else
  match kn.lookup g with
  | some b => if b = want then run kn ts else skip kn ts
  | none => match dstOf ops g with
    | none => False
    | some d => condB (ts.getD d undefV) (if want then run ((g, true) :: kn) (setB ts d true) else skip ((g, true) :: kn) (setB ts d true)) (if want then skip ((g, false) :: kn) (setB ts d false) else run ((g, false) :: kn) (setB ts d false))

def AWo (P : Program) (orc : Orc) (ops : Array Oper) : List Oper → Nat → List (Nat × Bool) → List Nat → Array Value → Heap → (Array Value → Heap → Prop) → Prop
  | [], _, _, _, ts, H, K => K ts H
  | o :: rest, i, kn, sk, ts, H, K =>
    match o.guard with
    | none => AWop P orc (evalT ts) o H fun v H' => AWo P orc ops rest (i + 1) (cleanK ops o.dst kn) (cleanS ops o.dst sk) (putT ts o.dst v) H' K
    | some (g, want) => AWg ops g want kn sk ts
        (fun kn ts => AWop P orc (evalT ts) o H fun v H' => AWo P orc ops rest (i + 1) (cleanK ops o.dst kn) (cleanS ops o.dst sk) (putT ts o.dst v) H' K)
        (fun kn ts => AWo P orc ops rest (i + 1) (cleanK ops o.dst kn) (i :: cleanS ops o.dst sk) (putT ts o.dst undefV) H K)

/-- What is held is as it was read. -/
def heldP (m : Nat) (H : Heap) : List Held → Prop
  | [] => True
  | h :: r => if h.upto < m then heldP m H r else h.read H = some h.was ∧ heldP m H r

def AWd (P : Program) (orc : Orc) (ops : Array Oper) (up : List Nat) : List Nat → Nat → List Held → List (Nat × Bool) → List Nat → Array Value → Heap → (Array Value → Heap → Prop) → Prop
  | [], _, _, _, _, ts, H, K => K ts H
  | i :: rest, m, hs, kn, sk, ts, H, K =>
    match ops[i]? with
    | none => False
    | some o =>
      let run := fun (kn : List (Nat × Bool)) (ts : Array Value) => AWop P orc (evalT ts) o H fun v H' =>
        match kindOf o.op with
        | .eff => heldP (m + 1) H' hs ∧ AWd P orc ops up rest (m + 1) hs (cleanK ops o.dst kn) (cleanS ops o.dst sk) (putT ts o.dst v) H' K
        | .read => AWd P orc ops up rest m (if up.getD i 0 = m then hs else ⟨up.getD i 0, readOp P (evalT ts) o, v⟩ :: hs) (cleanK ops o.dst kn) (cleanS ops o.dst sk) (putT ts o.dst v) H' K
        | _ => AWd P orc ops up rest m hs (cleanK ops o.dst kn) (cleanS ops o.dst sk) (putT ts o.dst v) H' K
      match o.guard with
      | none => run kn ts
      | some (g, want) => AWg ops g want kn sk ts run
          (fun kn ts => AWd P orc ops up rest (match kindOf o.op with | .eff => m + 1 | _ => m) hs (cleanK ops o.dst kn) (i :: cleanS ops o.dst sk) (putT ts o.dst undefV) H K)

def AWr (f : Array Value → Heap → (Ex → Array Value → Heap → Prop) → Prop) : Nat → Array Value → Heap → (Ex → Array Value → Heap → Prop) → Prop
  | 0, _, _, _ => False
  | n + 1, ts, H, K => f ts H fun ex ts' H' => match ex with
    | .normal => AWr f n ts' H' K
    | .exit id => K (.exit id) ts' H'
    | .ret => K .ret ts' H'

def seqK (next : Array Value → Heap → (Ex → Array Value → Heap → Prop) → Prop) (K : Ex → Array Value → Heap → Prop) : Ex → Array Value → Heap → Prop
  | .normal, ts, H => next ts H K
  | .exit id, ts, H => K (.exit id) ts H
  | .ret, ts, H => K .ret ts H
def blockK (id : Nat) (K : Ex → Array Value → Heap → Prop) : Ex → Array Value → Heap → Prop
  | .normal, ts, H => K .normal ts H
  | .exit id', ts, H => if id' = id then K .normal ts H else K (.exit id') ts H
  | .ret, ts, H => K .ret ts H
def AWc (P : Program) (orc : Orc) : Code → Array Value → Heap → (Ex → Array Value → Heap → Prop) → Prop
  | .skip, ts, H, K | .label _, ts, H, K => K .normal ts H
  | .region _ ops draw, ts, H, K => match draw with
    | true => AWd P orc ops (uptoL ops) (canon ops) 0 [] [] [] ts H fun ts' H' => K .normal ts' H'
    | false => AWo P orc ops ops.toList 0 [] [] ts H fun ts' H' => K .normal ts' H'
  | .seq a b, ts, H, K => AWc P orc a ts H (seqK (fun t h k => AWc P orc b t h k) K)
  | .cond c a b, ts, H, K => condB (evalT ts c) (AWc P orc a ts H K) (AWc P orc b ts H K)
  | .block id b, ts, H, K => AWc P orc b ts H (blockK id K)
  | .loop b, ts, H, K => ∃ n, AWr (fun t h k => AWc P orc b t h k) n ts H K
  | .scope b, ts, H, K => AWc P orc b ts H K
  | .exit id, ts, H, K => K (.exit id) ts H
  | .ret, ts, H, K => K .ret ts H
  | _, _, _, _ => False

def AWloop (P : Program) (orc : Orc) (b : Code) (ts : Array Value) (H : Heap) (K : Ex → Array Value → Heap → Prop) : Prop := ∃ n, AWr (fun t h k => AWc P orc b t h k) n ts H K

/-- A part of code, by its place. -/
def subC : Code → List Nat → Code
  | c, [] => c
  | .seq a b, i :: r => if i = 0 then subC a r else subC b r
  | .cond _ a b, i :: r => if i = 0 then subC a r else subC b r
  | .block _ b, _ :: r => subC b r
  | .loop b, _ :: r => subC b r
  | .scope b, _ :: r => subC b r
  | c, _ => c

/-! Sound -/
def Knows (ops : Array Oper) (kn : List (Nat × Bool)) (sk : List Nat) (ts : Array Value) : Prop :=
  (∀ g b, (g, b) ∈ kn → yielded ops ts g = some b) ∧ (∀ g, g ∈ sk → yielded ops ts g = none)

theorem yielded_put {ops : Array Oper} {ts : Array Value} {d : Option Tmp} {v : Value} {g : Nat} (h : dstOf ops g ≠ d) : yielded ops (putT ts d v) g = yielded ops ts g := by
  unfold yielded
  cases hd : (ops[g]?).bind (·.dst) with
  | none => rfl
  | some t =>
    simp only [Option.bind_some]
    cases d with
    | none => rfl
    | some d =>
      have : d ≠ t := fun e => h (by unfold dstOf; rw [hd, e])
      simp only [putT, Array.getElem?_setIfInBounds_ne this]
theorem Knows.put {ops : Array Oper} {kn : List (Nat × Bool)} {sk : List Nat} {ts : Array Value} (h : Knows ops kn sk ts) (d : Option Tmp) (v : Value) : Knows ops (cleanK ops d kn) (cleanS ops d sk) (putT ts d v) := by
  refine ⟨fun g b hg => ?_, fun g hg => ?_⟩
  · unfold cleanK at hg
    rw [List.mem_filter] at hg
    rw [yielded_put (by simpa using hg.2)]
    exact h.1 g b hg.1
  · unfold cleanS at hg
    rw [List.mem_filter] at hg
    rw [yielded_put (by simpa using hg.2)]
    exact h.2 g hg.1
theorem Knows.skip {ops : Array Oper} {kn : List (Nat × Bool)} {sk : List Nat} {ts : Array Value} (h : Knows ops kn sk ts) {i : Nat} {o : Oper} (ho : ops[i]? = some o) : Knows ops (cleanK ops o.dst kn) (i :: cleanS ops o.dst sk) (putT ts o.dst undefV) := by
  obtain ⟨h1, h2⟩ := h.put o.dst undefV
  refine ⟨h1, fun g hg => ?_⟩
  rcases List.mem_cons.1 hg with e | hg
  · subst e
    unfold yielded
    rw [ho]
    simp only [Option.bind_some]
    cases hd : o.dst with
    | none => rfl
    | some d =>
      simp only [Option.bind_some, putT]
      by_cases hlt : d < ts.size
      · rw [Array.getElem?_setIfInBounds_self_of_lt hlt]; rfl
      · rw [Array.getElem?_eq_none (by simp; exact Nat.le_of_not_lt hlt)]
  · exact h2 g hg
theorem lookup_mem {l : List (Nat × Bool)} {g : Nat} {b : Bool} (h : l.lookup g = some b) : (g, b) ∈ l := by
  induction l with
  | nil => cases h
  | cons x l ih =>
    obtain ⟨a, c⟩ := x
    rw [List.lookup_cons] at h
    split at h
    · rename_i e; injection h with h; subst h
      have : g = a := by simpa using e
      subst this; exact List.mem_cons_self
    · exact List.mem_cons_of_mem _ (ih h)

theorem guard_sound {ops : Array Oper} {g : Nat} {want : Bool} {kn : List (Nat × Bool)} {sk : List Nat} {ts : Array Value} {run skip : List (Nat × Bool) → Array Value → Prop} (hk : Knows ops kn sk ts) (h : AWg ops g want kn sk ts run skip) :
    ∃ kn', Knows ops kn' sk ts ∧ ((yielded ops ts g == some want) = true ∧ run kn' ts ∨ (yielded ops ts g == some want) = false ∧ skip kn' ts) := by
  unfold AWg at h
  split at h
  · rename_i e
    refine ⟨kn, hk, .inr ⟨?_, h⟩⟩
    rw [hk.2 g (by simpa using e)]; rfl
  · split at h
    · rename_i b hb
      have := hk.1 g b (lookup_mem hb)
      refine ⟨kn, hk, ?_⟩
      split at h
      · rename_i e; subst e; exact .inl ⟨by rw [this]; simp, h⟩
      · rename_i e; exact .inr ⟨by rw [this]; simp [e], h⟩
    · split at h
      · exact h.elim
      · rename_i d hd
        obtain ⟨b, hv, h1, h2⟩ := condB_elim h
        have hlt : ts[d]? = some (.bool b) := by
          rw [Array.getD_eq_getD_getElem?] at hv
          cases hx : ts[d]? with
          | none => rw [hx] at hv; cases hv
          | some y => rw [hx] at hv; simp only [Option.getD_some] at hv; rw [hv]
        have hset : setB ts d b = ts := by
          unfold setB
          apply Array.ext_getElem?
          intro j
          by_cases e : d = j
          · subst e
            obtain ⟨hl, _⟩ := Array.getElem?_eq_some_iff.1 hlt
            rw [Array.getElem?_setIfInBounds_self_of_lt hl, hlt]
          · rw [Array.getElem?_setIfInBounds_ne e]
        have hy : yielded ops ts g = some b := by
          unfold yielded
          unfold dstOf at hd
          rw [hd]
          simp only [Option.bind_some, hlt]
        refine ⟨(g, b) :: kn, ⟨fun g' b' hm => ?_, hk.2⟩, ?_⟩
        · rcases List.mem_cons.1 hm with e | hm
          · injection e with e1 e2; subst e1; subst e2; exact hy
          · exact hk.1 g' b' hm
        · rw [hy]
          cases b with
          | true =>
            have := h1 rfl
            rw [hset] at this
            cases want with
            | true => exact .inl ⟨rfl, this⟩
            | false => exact .inr ⟨rfl, this⟩
          | false =>
            have := h2 rfl
            rw [hset] at this
            cases want with
            | true => exact .inr ⟨rfl, this⟩
            | false => exact .inl ⟨rfl, this⟩

theorem aops_up {P : Program} {orc : Orc} {k k' : Nat} (h : k ≤ k') {ops : Array Oper} {l : List Nat} {t : Array Value} {H : Heap} {r : Array Value × Heap} (hr : aops P (arun P orc k) ops l t H = some r) : aops P (arun P orc k') ops l t H = some r :=
  aops_mono (arun_mono P orc k k' h) l t H r hr
theorem adraw_up {P : Program} {orc : Orc} {k k' : Nat} (h : k ≤ k') {ops : Array Oper} {up : Nat → Nat} {l : List Nat} {m : Nat} {hs : List Held} {t : Array Value} {H : Heap} {r : Array Value × Heap} (hr : adraw P (arun P orc k) ops up l m hs t H = some r) : adraw P (arun P orc k') ops up l m hs t H = some r :=
  adraw_mono (arun_mono P orc k k' h) l m hs t H r hr

theorem AWo_sound {P : Program} {orc : Orc} {ops : Array Oper} : ∀ (l : List Oper) (i : Nat) (kn : List (Nat × Bool)) (sk : List Nat) (ts : Array Value) (H : Heap) (K : Array Value → Heap → Prop), (∀ j, j < l.length → ops[i + j]? = l[j]?) → Knows ops kn sk ts → AWo P orc ops l i kn sk ts H K →
    ∃ k ts' H', aops P (arun P orc k) ops (List.range' i l.length) ts H = some (ts', H') ∧ K ts' H' := by
  intro l
  induction l with
  | nil => intro i kn sk ts H K _ _ h; exact ⟨0, ts, H, by simp [aops], h⟩
  | cons o rest ih =>
    intro i kn sk ts H K hops hk h
    have ho : ops[i]? = some o := by simpa using hops 0 (by simp)
    have hrest : ∀ j, j < rest.length → ops[i + 1 + j]? = rest[j]? := fun j hj => by
      have := hops (j + 1) (by simp; omega)
      rw [show i + (j + 1) = i + 1 + j by omega] at this
      simpa using this
    have runs : ∀ kn, Knows ops kn sk ts → Region.wanted o (yielded ops ts) = true → (AWop P orc (evalT ts) o H fun v H' => AWo P orc ops rest (i + 1) (cleanK ops o.dst kn) (cleanS ops o.dst sk) (putT ts o.dst v) H' K) →
        ∃ k ts' H', aops P (arun P orc k) ops (List.range' i (o :: rest).length) ts H = some (ts', H') ∧ K ts' H' := by
      intro kn hk hw h
      obtain ⟨k1, v, H1, h1, h2⟩ := AWop_sound h
      obtain ⟨k2, ts', H', h3, h4⟩ := ih _ _ _ _ _ _ hrest (hk.put o.dst v) h2
      refine ⟨max k1 k2, ts', H', ?_, h4⟩
      rw [List.length_cons, List.range'_succ]
      simp only [aops, ho, if_pos hw, astep_mono' (Nat.le_max_left k1 k2) h1]
      exact aops_up (Nat.le_max_right k1 k2) h3
    have skips : ∀ kn, Knows ops kn sk ts → Region.wanted o (yielded ops ts) = false → AWo P orc ops rest (i + 1) (cleanK ops o.dst kn) (i :: cleanS ops o.dst sk) (putT ts o.dst undefV) H K →
        ∃ k ts' H', aops P (arun P orc k) ops (List.range' i (o :: rest).length) ts H = some (ts', H') ∧ K ts' H' := by
      intro kn hk hw h
      obtain ⟨k2, ts', H', h3, h4⟩ := ih _ _ _ _ _ _ hrest (hk.skip ho) h
      refine ⟨k2, ts', H', ?_, h4⟩
      rw [List.length_cons, List.range'_succ]
      simp only [aops, ho, hw, Bool.false_eq_true, if_false]
      exact h3
    simp only [AWo] at h
    cases hg : o.guard with
    | none =>
      rw [hg] at h
      exact runs kn hk (by unfold Region.wanted; rw [hg]) h
    | some gw =>
      obtain ⟨g, want⟩ := gw
      rw [hg] at h
      obtain ⟨kn', hk', h | h⟩ := guard_sound hk h
      · exact runs kn' hk' (by unfold Region.wanted; rw [hg]; exact h.1) h.2
      · exact skips kn' hk' (by unfold Region.wanted; rw [hg]; exact h.1) h.2

theorem readOp_eq {P : Program} {ev : Operand → Value} {o : Oper} {H : Heap} (hk : kindOf o.op = .read) {v : Value} (h : readOp P ev o H = some v) : valOf (aop P ev o H) = some v := by
  obtain ⟨dst, op, type, pos, after, guard⟩ := o
  cases op <;> simp only [kindOf] at hk <;> try (cases hk)
  case load t a => simp only [readOp] at h; simp only [aop, h, Option.map_some, valOf]
  case convert s d x => simp only [readOp] at h; simp only [aop, h, Option.map_some, valOf]
  case slice t x lo hi mx => simp only [readOp] at h; simp only [aop, h, Option.map_some, valOf]
  case lookup t x k ok => simp only [readOp] at h; simp only [aop, h, Option.map_some, valOf]
  case call c =>
    obtain ⟨callee, args, ts⟩ := c
    cases callee with
    | value f => simp [kindOf] at hk
    | invoke r n => simp [kindOf] at hk
    | builtin b =>
      cases b <;> simp [kindOf] at hk
      simp only [readOp, lenOf1] at h
      simp only [aop]
      split at h
      · rename_i e1 e2; simp only [e1, e2, h, Option.map_some, valOf]
      · cases h

/-- What is held, told in both ways. -/
def SameHeld : List Held → List Held → Prop
  | [], [] => True
  | a :: l, b :: m => a.upto = b.upto ∧ a.was = b.was ∧ (∀ H v, a.read H = some v → b.read H = some v) ∧ SameHeld l m
  | _, _ => False
theorem heldP_ok {m : Nat} {H : Heap} : ∀ {l l' : List Held}, SameHeld l l' → heldP m H l → heldOk m H l' = true
  | [], [], _, _ => rfl
  | a :: l, b :: l', ⟨h1, h2, h3, h4⟩, h => by
    simp only [heldP] at h
    simp only [heldOk, List.all_cons, Bool.and_eq_true, Bool.or_eq_true, decide_eq_true_eq]
    split at h
    · rename_i e; exact ⟨.inl (by omega), heldP_ok h4 h⟩
    · refine ⟨.inr ?_, heldP_ok h4 h.2⟩
      rw [h3 H _ h.1]
      simp only
      rw [← h2]; exact veq_refl _
  | [], _ :: _, h, _ => h.elim
  | _ :: _, [], h, _ => h.elim

theorem AWd_sound {P : Program} {orc : Orc} {ops : Array Oper} {up : List Nat} : ∀ (l : List Nat) (m : Nat) (hs hs' : List Held) (kn : List (Nat × Bool)) (sk : List Nat) (ts : Array Value) (H : Heap) (K : Array Value → Heap → Prop), SameHeld hs hs' → Knows ops kn sk ts → AWd P orc ops up l m hs kn sk ts H K →
    ∃ k ts' H', adraw P (arun P orc k) ops (fun i => up.getD i 0) l m hs' ts H = some (ts', H') ∧ K ts' H' := by
  intro l
  induction l with
  | nil => intro m hs hs' kn sk ts H K _ _ h; exact ⟨0, ts, H, by simp [adraw], h⟩
  | cons i rest ih =>
    intro m hs hs' kn sk ts H K hsame hk h
    simp only [AWd] at h
    cases ho : ops[i]? with
    | none => simp only [ho] at h
    | some o =>
      simp only [ho] at h
      have runs : ∀ kn, Knows ops kn sk ts → Region.wanted o (yielded ops ts) = true → (AWop P orc (evalT ts) o H fun v H' =>
          match kindOf o.op with
          | .eff => heldP (m + 1) H' hs ∧ AWd P orc ops up rest (m + 1) hs (cleanK ops o.dst kn) (cleanS ops o.dst sk) (putT ts o.dst v) H' K
          | .read => AWd P orc ops up rest m (if up.getD i 0 = m then hs else ⟨up.getD i 0, readOp P (evalT ts) o, v⟩ :: hs) (cleanK ops o.dst kn) (cleanS ops o.dst sk) (putT ts o.dst v) H' K
          | _ => AWd P orc ops up rest m hs (cleanK ops o.dst kn) (cleanS ops o.dst sk) (putT ts o.dst v) H' K) →
          ∃ k ts' H', adraw P (arun P orc k) ops (fun i => up.getD i 0) (i :: rest) m hs' ts H = some (ts', H') ∧ K ts' H' := by
        intro kn hk hw h
        obtain ⟨k1, v, H1, h1, h2⟩ := AWop_sound h
        cases hkd : kindOf o.op with
        | eff =>
          rw [hkd] at h2
          obtain ⟨g1, g2⟩ := h2
          obtain ⟨k2, ts', H', h3, h4⟩ := ih _ _ _ _ _ _ _ _ hsame (hk.put o.dst v) g2
          refine ⟨max k1 k2, ts', H', ?_, h4⟩
          have e1 : ¬ (kindOf o.op = .eff ∧ heldOk (m + 1) H1 hs' = false) := by rw [heldP_ok hsame g1]; simp
          have e2 : (if kindOf o.op = .eff then m + 1 else m) = m + 1 := by rw [hkd]; simp
          have e3 : ∀ X : Held, (if kindOf o.op = .read ∧ up.getD i 0 ≠ m then X :: hs' else hs') = hs' := fun X => by rw [hkd]; simp
          simp only [adraw, ho, if_pos hw, astep_mono' (Nat.le_max_left k1 k2) h1, if_neg e1, e2, e3]
          exact adraw_up (Nat.le_max_right k1 k2) h3
        | read =>
          rw [hkd] at h2
          simp only at h2
          by_cases hu : up.getD i 0 = m
          · rw [if_pos hu] at h2
            obtain ⟨k2, ts', H', h3, h4⟩ := ih _ _ _ _ _ _ _ _ hsame (hk.put o.dst v) h2
            refine ⟨max k1 k2, ts', H', ?_, h4⟩
            have e1 : ¬ (kindOf o.op = .eff ∧ heldOk (m + 1) H1 hs' = false) := by rw [hkd]; simp
            have e2 : (if kindOf o.op = .eff then m + 1 else m) = m := by rw [hkd]; simp
            have e3 : ∀ X : Held, (if kindOf o.op = .read ∧ up.getD i 0 ≠ m then X :: hs' else hs') = hs' := fun X => if_neg (fun h => h.2 hu)
            simp only [adraw, ho, if_pos hw, astep_mono' (Nat.le_max_left k1 k2) h1, if_neg e1, e2, e3]
            exact adraw_up (Nat.le_max_right k1 k2) h3
          · rw [if_neg hu] at h2
            have hs2 : SameHeld (⟨up.getD i 0, readOp P (evalT ts) o, v⟩ :: hs) (⟨up.getD i 0, fun H => valOf (aop P (evalT ts) o H), v⟩ :: hs') :=
              ⟨rfl, rfl, fun H u hH => readOp_eq hkd hH, hsame⟩
            obtain ⟨k2, ts', H', h3, h4⟩ := ih _ _ _ _ _ _ _ _ hs2 (hk.put o.dst v) h2
            refine ⟨max k1 k2, ts', H', ?_, h4⟩
            have e1 : ¬ (kindOf o.op = .eff ∧ heldOk (m + 1) H1 hs' = false) := by rw [hkd]; simp
            have e2 : (if kindOf o.op = .eff then m + 1 else m) = m := by rw [hkd]; simp
            have e3 : ∀ X : Held, (if kindOf o.op = .read ∧ up.getD i 0 ≠ m then X :: hs' else hs') = X :: hs' := fun X => if_pos ⟨hkd, hu⟩
            simp only [adraw, ho, if_pos hw, astep_mono' (Nat.le_max_left k1 k2) h1, if_neg e1, e2, e3]
            exact adraw_up (Nat.le_max_right k1 k2) h3
        | quiet =>
          rw [hkd] at h2
          obtain ⟨k2, ts', H', h3, h4⟩ := ih _ _ _ _ _ _ _ _ hsame (hk.put o.dst v) h2
          refine ⟨max k1 k2, ts', H', ?_, h4⟩
          have e1 : ¬ (kindOf o.op = .eff ∧ heldOk (m + 1) H1 hs' = false) := by rw [hkd]; simp
          have e2 : (if kindOf o.op = .eff then m + 1 else m) = m := by rw [hkd]; simp
          have e3 : ∀ X : Held, (if kindOf o.op = .read ∧ up.getD i 0 ≠ m then X :: hs' else hs') = hs' := fun X => by rw [hkd]; simp
          simp only [adraw, ho, if_pos hw, astep_mono' (Nat.le_max_left k1 k2) h1, if_neg e1, e2, e3]
          exact adraw_up (Nat.le_max_right k1 k2) h3
        | make =>
          rw [hkd] at h2
          obtain ⟨k2, ts', H', h3, h4⟩ := ih _ _ _ _ _ _ _ _ hsame (hk.put o.dst v) h2
          refine ⟨max k1 k2, ts', H', ?_, h4⟩
          have e1 : ¬ (kindOf o.op = .eff ∧ heldOk (m + 1) H1 hs' = false) := by rw [hkd]; simp
          have e2 : (if kindOf o.op = .eff then m + 1 else m) = m := by rw [hkd]; simp
          have e3 : ∀ X : Held, (if kindOf o.op = .read ∧ up.getD i 0 ≠ m then X :: hs' else hs') = hs' := fun X => by rw [hkd]; simp
          simp only [adraw, ho, if_pos hw, astep_mono' (Nat.le_max_left k1 k2) h1, if_neg e1, e2, e3]
          exact adraw_up (Nat.le_max_right k1 k2) h3
      have skips : ∀ kn, Knows ops kn sk ts → Region.wanted o (yielded ops ts) = false → AWd P orc ops up rest (match kindOf o.op with | .eff => m + 1 | _ => m) hs (cleanK ops o.dst kn) (i :: cleanS ops o.dst sk) (putT ts o.dst undefV) H K →
          ∃ k ts' H', adraw P (arun P orc k) ops (fun i => up.getD i 0) (i :: rest) m hs' ts H = some (ts', H') ∧ K ts' H' := by
        intro kn hk hw h
        obtain ⟨k2, ts', H', h3, h4⟩ := ih _ _ _ _ _ _ _ _ hsame (hk.skip ho) h
        refine ⟨k2, ts', H', ?_, h4⟩
        simp only [adraw, ho, hw, Bool.false_eq_true, if_false]
        have e : (if kindOf o.op = .eff then m + 1 else m) = (match kindOf o.op with | .eff => m + 1 | _ => m) := by
          cases kindOf o.op <;> rfl
        rw [e]; exact h3
      cases hg : o.guard with
      | none =>
        rw [hg] at h
        exact runs kn hk (by unfold Region.wanted; rw [hg]) h
      | some gw =>
        obtain ⟨g, want⟩ := gw
        rw [hg] at h
        obtain ⟨kn', hk', h | h⟩ := guard_sound hk h
        · exact runs kn' hk' (by unfold Region.wanted; rw [hg]; exact h.1) h.2
        · exact skips kn' hk' (by unfold Region.wanted; rw [hg]; exact h.1) h.2

theorem acode_up {P : Program} {orc : Orc} {k k' : Nat} (h : k ≤ k') {c : Code} {t : Array Value} {H : Heap} {r : Ex × Array Value × Heap} (hr : acode P (arun P orc k) k c t H = some r) : acode P (arun P orc k') k' c t H = some r :=
  acode_mono (arun_mono P orc k k' h) h c t H r hr

theorem AWc_sound {P : Program} {orc : Orc} : ∀ (c : Code) (ts : Array Value) (H : Heap) (K : Ex → Array Value → Heap → Prop), AWc P orc c ts H K → ∃ k ex ts' H', acode P (arun P orc k) k c ts H = some (ex, ts', H') ∧ K ex ts' H' := by
  intro c
  induction c with
  | skip => intro ts H K h; exact ⟨0, .normal, ts, H, rfl, h⟩
  | label l => intro ts H K h; exact ⟨0, .normal, ts, H, rfl, h⟩
  | region id ops draw =>
    intro ts H K h
    cases draw with
    | true =>
      obtain ⟨k, ts', H', h1, h2⟩ := AWd_sound _ _ [] [] _ _ _ _ _ trivial ⟨fun g b hg => (List.not_mem_nil hg).elim, fun g hg => (List.not_mem_nil hg).elim⟩ h
      exact ⟨k, .normal, ts', H', by simp only [acode, if_true, h1, Option.map_some], h2⟩
    | false =>
      obtain ⟨k, ts', H', h1, h2⟩ := AWo_sound ops.toList 0 _ _ _ _ _ (fun j hj => by simp) ⟨fun g b hg => (List.not_mem_nil hg).elim, fun g hg => (List.not_mem_nil hg).elim⟩ h
      refine ⟨k, .normal, ts', H', ?_, h2⟩
      simp only [acode, Bool.false_eq_true, if_false]
      rw [List.range_eq_range', show ops.size = ops.toList.length by simp, h1]; rfl
  | seq a b iha ihb =>
    intro ts H K h
    obtain ⟨k1, ex, ts1, H1, h1, h2⟩ := iha _ _ _ h
    cases ex with
    | normal =>
      obtain ⟨k2, ex2, ts2, H2, h3, h4⟩ := ihb _ _ _ h2
      refine ⟨max k1 k2, ex2, ts2, H2, ?_, h4⟩
      simp only [acode, acode_up (Nat.le_max_left k1 k2) h1]
      exact acode_up (Nat.le_max_right k1 k2) h3
    | exit id => exact ⟨k1, .exit id, ts1, H1, by simp only [acode, h1], h2⟩
    | ret => exact ⟨k1, .ret, ts1, H1, by simp only [acode, h1], h2⟩
  | cond q a b iha ihb =>
    intro ts H K h
    obtain ⟨x, hv, h1, h2⟩ := condB_elim h
    cases x with
    | true =>
      obtain ⟨k, ex, ts', H', g1, g2⟩ := iha _ _ _ (h1 rfl)
      exact ⟨k, ex, ts', H', by simp only [acode, hv, if_true, g1], g2⟩
    | false =>
      obtain ⟨k, ex, ts', H', g1, g2⟩ := ihb _ _ _ (h2 rfl)
      exact ⟨k, ex, ts', H', by simp only [acode, hv, Bool.false_eq_true, if_false, g1], g2⟩
  | block id b ih =>
    intro ts H K h
    obtain ⟨k, ex, ts', H', h1, h2⟩ := ih _ _ _ h
    cases ex with
    | normal => exact ⟨k, .normal, ts', H', by simp only [acode, h1], h2⟩
    | ret => exact ⟨k, .ret, ts', H', by simp only [acode, h1], h2⟩
    | exit id' =>
      simp only [blockK] at h2
      split at h2
      · rename_i e; exact ⟨k, .normal, ts', H', by simp only [acode, h1, if_pos e], h2⟩
      · rename_i e; exact ⟨k, .exit id', ts', H', by simp only [acode, h1, if_neg e], h2⟩
  | loop b ih =>
    intro ts H K h
    obtain ⟨n, h⟩ := h
    have go : ∀ n ts H, AWr (fun t h k => AWc P orc b t h k) n ts H K → ∃ k m ex ts' H', iter (acode P (arun P orc k) k b) m ts H = some (ex, ts', H') ∧ K ex ts' H' := by
      intro n
      induction n with
      | zero => intro ts H h; exact h.elim
      | succ n ihn =>
        intro ts H h
        obtain ⟨k1, ex, ts1, H1, h1, h2⟩ := ih _ _ _ h
        cases ex with
        | normal =>
          obtain ⟨k2, m, ex2, ts2, H2, h3, h4⟩ := ihn _ _ h2
          refine ⟨max k1 k2, m + 1, ex2, ts2, H2, ?_, h4⟩
          simp only [iter, acode_up (Nat.le_max_left k1 k2) h1]
          exact iter_mono (fun t H r hr => acode_up (Nat.le_max_right k1 k2) hr) _ _ (Nat.le_refl _) _ _ _ h3
        | exit id => exact ⟨k1, 1, .exit id, ts1, H1, by simp only [iter, h1], h2⟩
        | ret => exact ⟨k1, 1, .ret, ts1, H1, by simp only [iter, h1], h2⟩
    obtain ⟨k, m, ex, ts', H', h1, h2⟩ := go n ts H h
    refine ⟨max k m, ex, ts', H', ?_, h2⟩
    simp only [acode]
    exact iter_mono (fun t H r hr => acode_up (Nat.le_max_left k m) hr) _ _ (Nat.le_max_right k m) _ _ _ h1
  | scope b ih => intro ts H K h; obtain ⟨k, ex, ts', H', h1, h2⟩ := ih _ _ _ h; exact ⟨k, ex, ts', H', by simp only [acode, h1], h2⟩
  | exit id => intro ts H K h; exact ⟨0, .exit id, ts, H, rfl, h⟩
  | ret => intro ts H K h; exact ⟨0, .ret, ts, H, rfl, h⟩
  | _ => intro ts H K h; exact h.elim

/-- What stands behind a body: its results. -/
def endK (P : Program) (rs : List ResultVar) (Q : Value → Heap → Prop) : Ex → Array Value → Heap → Prop
  | .exit _, _, _ => False
  | _, ts, H => obind (resultsV P rs ts H) fun vs => Q (packV vs) H

theorem Ev_of {P : Program} {orc : Orc} {f : FuncId} {fn : Func} {c : Code} {args : Array Value} {H : Heap} {Q : Value → Heap → Prop} (ho : orc f = none) (hf : P.funcs[f]? = some fn) (hc : callable fn = true) (hb : fn.body = some c)
    (h : AWc P orc c (enterT fn args) H (endK P fn.results.toList Q)) : Ev P orc f args H Q := by
  obtain ⟨k, ex, ts, H', h1, h2⟩ := AWc_sound _ _ _ _ h
  cases ex with
  | exit id => exact h2.elim
  | normal =>
    obtain ⟨vs, h3, h4⟩ := obind_elim h2
    exact ⟨k + 1, _, _, by simp only [arun, ho, hf, if_pos hc, abody, hb, h1, h3, Option.map_some], h4⟩
  | ret =>
    obtain ⟨vs, h3, h4⟩ := obind_elim h2
    exact ⟨k + 1, _, _, by simp only [arun, ho, hf, if_pos hc, abody, hb, h1, h3, Option.map_some], h4⟩

/-! More may be claimed of less -/
theorem obind_mono {α : Type} {o : Option α} {k k' : α → Prop} (h : obind o k) (hk : ∀ a, k a → k' a) : obind o k' := by
  obtain ⟨a, h1, h2⟩ := obind_elim h
  exact obind_of h1 (hk a h2)
theorem AWop_mono {P : Program} {orc : Orc} {ev : Operand → Value} {o : Oper} {H : Heap} {K K' : Value → Heap → Prop} (h : AWop P orc ev o H K) (hk : ∀ v H', K v H' → K' v H') : AWop P orc ev o H K' := by
  obtain ⟨dst, op, type, pos, after, guard⟩ := o
  cases op <;> simp only [AWop] at h ⊢
  case call c =>
    obtain ⟨callee, args, ts⟩ := c
    cases callee with
    | value f => exact obind_mono h fun g hg => hg.mono hk
    | invoke r name => exact obind_mono h fun g hg => obind_mono hg fun f hf => hf.mono hk
    | builtin b =>
      cases b <;> simp only at h ⊢ <;> first
        | exact h
        | exact obind_mono h fun _ hh => hk _ _ hh
  case extract x ix => exact obind_mono h fun _ hh => obind_mono hh fun _ hhh => hk _ _ hhh
  all_goals first
    | exact hk _ _ h
    | exact obind_mono h fun _ hh => hk _ _ hh
    | exact h
theorem AWg_mono {ops : Array Oper} {g : Nat} {want : Bool} {kn : List (Nat × Bool)} {sk : List Nat} {ts : Array Value} {run skip run' skip' : List (Nat × Bool) → Array Value → Prop} (h : AWg ops g want kn sk ts run skip)
    (h1 : ∀ kn ts, run kn ts → run' kn ts) (h2 : ∀ kn ts, skip kn ts → skip' kn ts) : AWg ops g want kn sk ts run' skip' := by
  unfold AWg at *
  split
  · rename_i e; rw [if_pos e] at h; exact h2 _ _ h
  · rename_i e
    rw [if_neg e] at h
    split
    · rename_i b hb
      simp only [hb] at h
      split
      · rename_i e2; rw [if_pos e2] at h; exact h1 _ _ h
      · rename_i e2; rw [if_neg e2] at h; exact h2 _ _ h
    · rename_i hb
      simp only [hb] at h
      split
      · rename_i hd; simp only [hd] at h
      · rename_i d hd
        simp only [hd] at h
        refine condB_mono h (fun this => ?_) (fun this => ?_)
        · cases want with
          | true => exact h1 _ _ this
          | false => exact h2 _ _ this
        · cases want with
          | true => exact h2 _ _ this
          | false => exact h1 _ _ this
theorem AWo_mono {P : Program} {orc : Orc} {ops : Array Oper} {K K' : Array Value → Heap → Prop} (hk : ∀ ts H, K ts H → K' ts H) : ∀ (l : List Oper) (i : Nat) (kn : List (Nat × Bool)) (sk : List Nat) (ts : Array Value) (H : Heap), AWo P orc ops l i kn sk ts H K → AWo P orc ops l i kn sk ts H K' := by
  intro l
  induction l with
  | nil => intro i kn sk ts H h; exact hk _ _ h
  | cons o rest ih =>
    intro i kn sk ts H h
    simp only [AWo] at h ⊢
    split
    · rename_i e
      simp only [e] at h
      exact AWop_mono h fun v H' hh => ih _ _ _ _ _ hh
    · rename_i g want e
      simp only [e] at h
      exact AWg_mono h (fun kn ts hh => AWop_mono hh fun v H' hhh => ih _ _ _ _ _ hhh) (fun kn ts hh => ih _ _ _ _ _ hh)
theorem AWd_mono {P : Program} {orc : Orc} {ops : Array Oper} {up : List Nat} {K K' : Array Value → Heap → Prop} (hk : ∀ ts H, K ts H → K' ts H) : ∀ (l : List Nat) (m : Nat) (hs : List Held) (kn : List (Nat × Bool)) (sk : List Nat) (ts : Array Value) (H : Heap), AWd P orc ops up l m hs kn sk ts H K → AWd P orc ops up l m hs kn sk ts H K' := by
  intro l
  induction l with
  | nil => intro m hs kn sk ts H h; exact hk _ _ h
  | cons i rest ih =>
    intro m hs kn sk ts H h
    simp only [AWd] at h ⊢
    cases ho : ops[i]? with
    | none => simp only [ho] at h
    | some o =>
      simp only [ho] at h ⊢
      have run : ∀ (kn : List (Nat × Bool)) (ts : Array Value), (AWop P orc (evalT ts) o H fun v H' =>
          match kindOf o.op with
          | .eff => heldP (m + 1) H' hs ∧ AWd P orc ops up rest (m + 1) hs (cleanK ops o.dst kn) (cleanS ops o.dst sk) (putT ts o.dst v) H' K
          | .read => AWd P orc ops up rest m (if up.getD i 0 = m then hs else ⟨up.getD i 0, readOp P (evalT ts) o, v⟩ :: hs) (cleanK ops o.dst kn) (cleanS ops o.dst sk) (putT ts o.dst v) H' K
          | _ => AWd P orc ops up rest m hs (cleanK ops o.dst kn) (cleanS ops o.dst sk) (putT ts o.dst v) H' K) →
          (AWop P orc (evalT ts) o H fun v H' =>
          match kindOf o.op with
          | .eff => heldP (m + 1) H' hs ∧ AWd P orc ops up rest (m + 1) hs (cleanK ops o.dst kn) (cleanS ops o.dst sk) (putT ts o.dst v) H' K'
          | .read => AWd P orc ops up rest m (if up.getD i 0 = m then hs else ⟨up.getD i 0, readOp P (evalT ts) o, v⟩ :: hs) (cleanK ops o.dst kn) (cleanS ops o.dst sk) (putT ts o.dst v) H' K'
          | _ => AWd P orc ops up rest m hs (cleanK ops o.dst kn) (cleanS ops o.dst sk) (putT ts o.dst v) H' K') := by
        intro kn ts h
        refine AWop_mono h fun v H' hh => ?_
        revert hh
        cases kindOf o.op with
        | eff => exact fun hh => ⟨hh.1, ih _ _ _ _ _ _ hh.2⟩
        | read => exact fun hh => ih _ _ _ _ _ _ hh
        | quiet => exact fun hh => ih _ _ _ _ _ _ hh
        | make => exact fun hh => ih _ _ _ _ _ _ hh
      split
      · rename_i e
        simp only [e] at h
        exact run _ _ h
      · rename_i g want e
        simp only [e] at h
        exact AWg_mono h run (fun kn ts hh => ih _ _ _ _ _ _ hh)
theorem AWr_mono {f : Array Value → Heap → (Ex → Array Value → Heap → Prop) → Prop} (hf : ∀ ts H K K', (∀ ex ts H, K ex ts H → K' ex ts H) → f ts H K → f ts H K') {K K' : Ex → Array Value → Heap → Prop} (hk : ∀ ex ts H, K ex ts H → K' ex ts H) :
    ∀ n ts H, AWr f n ts H K → AWr f n ts H K'
  | 0, _, _, h => h
  | n + 1, ts, H, h => by
    simp only [AWr] at h ⊢
    refine hf _ _ _ _ (fun ex ts H hh => ?_) h
    cases ex with
    | normal => exact AWr_mono hf hk n _ _ hh
    | exit id => exact hk _ _ _ hh
    | ret => exact hk _ _ _ hh
theorem AWc_mono {P : Program} {orc : Orc} : ∀ (c : Code) (ts : Array Value) (H : Heap) (K K' : Ex → Array Value → Heap → Prop), (∀ ex ts H, K ex ts H → K' ex ts H) → AWc P orc c ts H K → AWc P orc c ts H K' := by
  intro c
  induction c with
  | skip => intro ts H K K' hk h; exact hk _ _ _ h
  | label l => intro ts H K K' hk h; exact hk _ _ _ h
  | region id ops draw =>
    intro ts H K K' hk h
    cases draw with
    | true => exact AWd_mono (fun ts H hh => hk _ _ _ hh) _ _ _ _ _ _ _ h
    | false => exact AWo_mono (fun ts H hh => hk _ _ _ hh) _ _ _ _ _ _ h
  | seq a b iha ihb =>
    intro ts H K K' hk h
    refine iha _ _ _ _ (fun ex ts H hh => ?_) h
    cases ex with
    | normal => exact ihb _ _ _ _ hk hh
    | exit id => exact hk _ _ _ hh
    | ret => exact hk _ _ _ hh
  | cond q a b iha ihb =>
    intro ts H K K' hk h
    exact condB_mono h (fun hh => iha _ _ _ _ hk hh) (fun hh => ihb _ _ _ _ hk hh)
  | block id b ih =>
    intro ts H K K' hk h
    refine ih _ _ _ _ (fun ex ts H hh => ?_) h
    cases ex with
    | normal => exact hk _ _ _ hh
    | ret => exact hk _ _ _ hh
    | exit id' =>
      simp only [blockK] at hh ⊢
      split
      · rename_i e; rw [if_pos e] at hh; exact hk _ _ _ hh
      · rename_i e; rw [if_neg e] at hh; exact hk _ _ _ hh
  | loop b ih =>
    intro ts H K K' hk h
    obtain ⟨n, h⟩ := h
    exact ⟨n, AWr_mono (f := fun t h k => AWc P orc b t h k) (fun ts H K K' hk h => ih _ _ _ _ hk h) hk n ts H h⟩
  | scope b ih => intro ts H K K' hk h; exact ih _ _ _ _ hk h
  | exit id => intro ts H K K' hk h; exact hk _ _ _ h
  | ret => intro ts H K K' hk h; exact hk _ _ _ h
  | _ => intro ts H K K' hk h; exact h

/-- A loop: what holds ahead of each round, and a measure. -/
theorem AWloop_rule {P : Program} {orc : Orc} {b : Code} {ts : Array Value} {H : Heap} {K : Ex → Array Value → Heap → Prop} (I : Nat → Array Value → Heap → Prop) (n : Nat) (h0 : I n ts H)
    (step : ∀ n ts H, I n ts H → AWc P orc b ts H (seqK (fun ts' H' _ => ∃ m, m < n ∧ I m ts' H') K)) : AWloop P orc b ts H K := by
  have key : ∀ N n, n < N → ∀ ts H, I n ts H → AWr (fun t h k => AWc P orc b t h k) N ts H K := by
    intro N
    induction N with
    | zero => intro n hn; omega
    | succ N ih =>
      intro n hn ts H hI
      refine AWc_mono _ _ _ _ _ (fun ex ts H hh => ?_) (step n ts H hI)
      cases ex with
      | normal =>
        obtain ⟨m, hm, hI'⟩ := hh
        exact ih m (by omega) _ _ hI'
      | exit id => exact hh
      | ret => exact hh
  exact ⟨n + 1, key (n + 1) n (by omega) ts H h0⟩
/-- A sequence, cut. -/
theorem AWc_cut {P : Program} {orc : Orc} {a : Code} {ts : Array Value} {H : Heap} {K : Ex → Array Value → Heap → Prop} (J : Ex → Array Value → Heap → Prop) (h : AWc P orc a ts H J) (hJ : ∀ ex ts' H', J ex ts' H' → K ex ts' H') : AWc P orc a ts H K :=
  AWc_mono _ _ _ _ _ hJ h
end Go.Abs
namespace Go.Abs
theorem Ev_ofW {P : Program} {orc : Orc} {f : FuncId} {fn : Func} {c : Code} {args : Array Value} {H : Heap} {Q : Value → Heap → Prop} {W : Prop} (ho : orc f = none) (hf : P.funcs[f]? = some fn) (hc : callable fn = true) (hb : fn.body = some c)
    (e : AWc P orc c (enterT fn args) H (endK P fn.results.toList Q) = W) (h : W) : Ev P orc f args H Q := Ev_of ho hf hc hb (by rw [e]; exact h)
end Go.Abs
