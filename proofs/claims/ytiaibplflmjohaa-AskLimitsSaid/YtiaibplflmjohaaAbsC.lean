/- The abstract machine: code and calls. -/
import Derived.Test.YtiaibplflmjohaaAbsB
set_option linter.unusedVariables false
set_option linter.unusedSimpArgs false
namespace Go.Abs
open Go Go.RowKit
set_option linter.unusedVariables false

/-! Regions that draw: what is before what -/
def onsOf (o : Oper) : List Nat := (o.after.toList.filter (Region.binds .any ·)).map (·.on)
def befGo : List Oper → List (List Nat) → List (List Nat)
  | [], acc => acc
  | o :: rest, acc => befGo rest (acc ++ [((onsOf o) ++ (onsOf o).flatMap fun j => acc.getD j []).eraseDups])
def befs (ops : Array Oper) : List (List Nat) := befGo ops.toList []
def effs (ops : Array Oper) (ord : List Nat) : List Nat := ord.filter fun i => match ops[i]? with | some o => decide (kindOf o.op = .eff) | none => false
def pickReady (bs : List (List Nat)) (done : List Nat) (c : List Nat) : Option Nat :=
  c.find? fun i => !done.contains i && (bs.getD i []).all fun j => done.contains j
def canonGo (bs : List (List Nat)) (soft hard : List Nat) : Nat → List Nat → List Nat
  | 0, done => done.reverse
  | n + 1, done =>
    match pickReady bs done soft with
    | some i => canonGo bs soft hard n (i :: done)
    | none => match pickReady bs done hard with
      | some i => canonGo bs soft hard n (i :: done)
      | none => done.reverse
def canon (ops : Array Oper) : List Nat :=
  canonGo (befs ops) ((List.range ops.size).filter fun i => !(effs ops [i]).contains i) (effs ops (List.range ops.size)) ops.size []
def uptoOf (bs : List (List Nat)) (es : List Nat) (i : Nat) : Nat := (es.findIdx? fun e => (bs.getD e []).contains i).getD es.length
def uptoL (ops : Array Oper) : List Nat := (List.range ops.size).map (uptoOf (befs ops) (effs ops (canon ops)))

def looks (ops : Array Oper) (o : Oper) : List Tmp := o.looksAt ops

/-- Behind the effects es, is ord (from here on) in order? last: the last effect run. -/
def phases (ops : Array Oper) (bs : List (List Nat)) : List Nat → Option Nat → List Nat → Bool
  | [], _, _ => true
  | i :: rest, last, done =>
    (bs.getD i []).all (done.contains ·) && !done.contains i &&
    (match last with | some e => (bs.getD i []).contains e | none => true) &&
    (match ops[i]? with
     | some o => phases ops bs rest (if kindOf o.op = .eff then some i else last) (i :: done)
     | none => false)
def apartAll (ops : Array Oper) (bs : List (List Nat)) : Bool :=
  (List.range ops.size).all fun i => (List.range ops.size).all fun j =>
    match ops[i]?, ops[j]? with
    | some oi, some oj => match oj.dst with
      | some d => (i == j || oi.dst != some d) && (!(looks ops oi).contains d || (bs.getD i []).contains j || (bs.getD j []).contains i)
      | none => true
    | _, _ => false
def drawOk (ops : Array Oper) : Bool :=
  let bs := befs ops
  let ord := canon ops
  (List.range ops.size).all (fun i => (ops.getD i default |> onsOf).all fun j => decide (j < i)) &&
  decide (ord.length = ops.size) && ord.all (fun i => decide (i < ops.size)) && (List.range ops.size).all (ord.contains ·) &&
  phases ops bs ord none [] && apartAll ops bs

def noGlobalOp : Operand → Bool
  | .global _ => false
  | .const v => flat v
  | _ => true
def noGlobal (o : Oper) : Bool := o.op.operands.all noGlobalOp
def codeOk : Code → Bool
  | .region _ ops draw => ops.all noGlobal && (!draw || drawOk ops)
  | .seq a b => codeOk a && codeOk b
  | .cond c a b => noGlobalOp c && codeOk a && codeOk b
  | .block _ b | .loop b | .scope b => codeOk b
  | .rangeFunc .. | .goto _ | .refuse _ => true
  | _ => true

inductive Ex where
  | normal
  | exit (id : Nat)
  | ret
  deriving DecidableEq

abbrev St := Option (Ex × Array Value × Heap)

def iter (f : Array Value → Heap → St) : Nat → Array Value → Heap → St
  | 0, _, _ => none
  | n + 1, t, H => match f t H with
    | some (.normal, t', H') => iter f n t' H'
    | r => r

def acode (P : Program) (call : CallFn) (fuel : Nat) : Code → Array Value → Heap → St
  | .skip, t, H | .label _, t, H => some (.normal, t, H)
  | .region _ ops draw, t, H =>
    (if draw then adraw P call ops (fun i => (uptoL ops).getD i 0) (canon ops) 0 [] t H else aops P call ops (List.range ops.size) t H).map fun r => (.normal, r.1, r.2)
  | .seq a b, t, H => match acode P call fuel a t H with
    | some (.normal, t', H') => acode P call fuel b t' H'
    | r => r
  | .cond c a b, t, H => match evalT t c with
    | .bool x => if x then acode P call fuel a t H else acode P call fuel b t H
    | _ => none
  | .block id b, t, H => match acode P call fuel b t H with
    | some (.exit id', t', H') => if id' = id then some (.normal, t', H') else some (.exit id', t', H')
    | r => r
  | .loop b, t, H => iter (acode P call fuel b) fuel t H
  | .scope b, t, H => acode P call fuel b t H
  | .exit id, t, H => some (.exit id, t, H)
  | .ret, t, H => some (.ret, t, H)
  | _, _, _ => none

def oneResult (P : Program) (t : Array Value) (H : Heap) : ResultVar → Option Value
  | .tmp d => some (t.getD d undefV)
  | .cell a ty => aload P ty (t.getD a undefV) H
def resultsV (P : Program) (rs : List ResultVar) (t : Array Value) (H : Heap) : Option (List Value) :=
  match rs with
  | [] => some []
  | r :: rest => match oneResult P t H r, resultsV P rest t H with
    | some v, some vs => some (v :: vs)
    | _, _ => none
def packV : List Value → Value
  | [v] => v
  | vs => .tuple vs.toArray

def callable (fn : Func) : Bool := fn.name != "runtime.NumGoroutine" && (match fn.body with | some c => codeOk c | none => false)

def enterT (fn : Func) (args : Array Value) : Array Value := args ++ Array.replicate (fn.ntmps - args.size) undefV

def abody (P : Program) (call : CallFn) (fuel : Nat) (fn : Func) (args : Array Value) (H : Heap) : Option (Value × Heap) :=
  match fn.body with
  | some c =>
    match acode P call fuel c (enterT fn args) H with
    | some (.exit _, _, _) => none
    | some (_, t, H') => (resultsV P fn.results.toList t H').map fun vs => (packV vs, H')
    | none => none
  | none => none

/-- Functions whose answer is told from elsewhere. -/
abbrev Orc := FuncId → Option (Array Value → Heap → Option (Value × Heap))
def arun (P : Program) (orc : Orc) : Nat → CallFn
  | 0, _, _, _ => none
  | k + 1, f, args, H =>
    match orc f with
    | some g => g args H
    | none =>
      match P.funcs[f]? with
      | some fn => if callable fn then abody P (arun P orc k) k fn args H else none
      | none => none

/-! More rounds, the same answer -/
def LeC (c c' : CallFn) : Prop := ∀ f a H r, c f a H = some r → c' f a H = some r

theorem astep_mono {P : Program} {c c' : CallFn} (h : LeC c c') {ev : Operand → Value} {o : Oper} {H : Heap} {r : Value × Heap}
    (hs : astep P c ev o H = some r) : astep P c' ev o H = some r := by
  unfold astep at *
  split at hs
  · rename_i e; simpa [e] using hs
  · rename_i e; simpa [e] using h _ _ _ _ hs
  · cases hs

theorem aops_mono {P : Program} {c c' : CallFn} (h : LeC c c') {ops : Array Oper} : ∀ (l : List Nat) (t : Array Value) (H : Heap) (r : Array Value × Heap),
    aops P c ops l t H = some r → aops P c' ops l t H = some r := by
  intro l
  induction l with
  | nil => intro t H r hr; simpa [aops] using hr
  | cons i rest ih =>
    intro t H r hr
    simp only [aops] at hr ⊢
    cases ho : ops[i]? with
    | none => rw [ho] at hr; cases hr
    | some o =>
      rw [ho] at hr
      simp only at hr ⊢
      split
      · rename_i hw
        rw [if_pos hw] at hr
        cases hs : astep P c (evalT t) o H with
        | none => rw [hs] at hr; cases hr
        | some vh =>
          rw [hs] at hr
          rw [astep_mono h hs]
          exact ih _ _ _ hr
      · rename_i hw
        rw [if_neg hw] at hr
        exact ih _ _ _ hr

theorem adraw_mono {P : Program} {c c' : CallFn} (h : LeC c c') {ops : Array Oper} {up : Nat → Nat} : ∀ (l : List Nat) (m : Nat) (hs : List Held) (t : Array Value) (H : Heap) (r : Array Value × Heap),
    adraw P c ops up l m hs t H = some r → adraw P c' ops up l m hs t H = some r := by
  intro l
  induction l with
  | nil => intro m hs t H r hr; simpa [adraw] using hr
  | cons i rest ih =>
    intro m hs t H r hr
    simp only [adraw] at hr ⊢
    cases ho : ops[i]? with
    | none => rw [ho] at hr; cases hr
    | some o =>
      rw [ho] at hr
      simp only at hr ⊢
      split
      · rename_i hw
        rw [if_pos hw] at hr
        cases hst : astep P c (evalT t) o H with
        | none => rw [hst] at hr; cases hr
        | some vh =>
          rw [hst] at hr
          rw [astep_mono h hst]
          simp only at hr ⊢
          split
          · rename_i hb; rw [if_pos hb] at hr; cases hr
          · rename_i hb
            rw [if_neg hb] at hr
            exact ih _ _ _ _ _ hr
      · rename_i hw
        rw [if_neg hw] at hr
        exact ih _ _ _ _ _ hr

theorem iter_mono {f g : Array Value → Heap → St} (h : ∀ t H r, f t H = some r → g t H = some r) : ∀ (n n' : Nat), n ≤ n' → ∀ t H r, iter f n t H = some r → iter g n' t H = some r := by
  intro n
  induction n with
  | zero => intro n' _ t H r hr; cases hr
  | succ n ih =>
    intro n' hn t H r hr
    obtain ⟨m, rfl⟩ : ∃ m, n' = m + 1 := ⟨n' - 1, by omega⟩
    simp only [iter] at hr ⊢
    cases hf : f t H with
    | none => rw [hf] at hr; cases hr
    | some s =>
      rw [h _ _ _ hf]
      rw [hf] at hr
      obtain ⟨e, t', H'⟩ := s
      cases e with
      | normal => exact ih m (by omega) _ _ _ hr
      | exit id => exact hr
      | ret => exact hr

theorem acode_mono {P : Program} {c c' : CallFn} (h : LeC c c') {k k' : Nat} (hk : k ≤ k') : ∀ (x : Code) (t : Array Value) (H : Heap) (r : Ex × Array Value × Heap),
    acode P c k x t H = some r → acode P c' k' x t H = some r := by
  intro x
  induction x with
  | skip => intro t H r hr; exact hr
  | label l => intro t H r hr; exact hr
  | region id ops draw =>
    intro t H r hr
    simp only [acode, Option.map_eq_some_iff] at hr ⊢
    obtain ⟨s, hs, e⟩ := hr
    refine ⟨s, ?_, e⟩
    split
    · rename_i hd; rw [if_pos hd] at hs; exact adraw_mono h _ _ _ _ _ _ hs
    · rename_i hd; rw [if_neg hd] at hs; exact aops_mono h _ _ _ _ hs
  | seq a b iha ihb =>
    intro t H r hr
    simp only [acode] at hr ⊢
    cases ha : acode P c k a t H with
    | none => rw [ha] at hr; cases hr
    | some s =>
      rw [iha _ _ _ ha]; rw [ha] at hr
      obtain ⟨e, t', H'⟩ := s
      cases e with
      | normal => exact ihb _ _ _ hr
      | exit id => exact hr
      | ret => exact hr
  | cond q a b iha ihb =>
    intro t H r hr
    simp only [acode] at hr ⊢
    split
    · rename_i x hx
      simp only [hx] at hr
      split
      · rename_i hb; rw [if_pos hb] at hr; exact iha _ _ _ hr
      · rename_i hb; rw [if_neg hb] at hr; exact ihb _ _ _ hr
    · rename_i hx
      split at hr
      · rename_i x hx'; exact absurd hx' (hx x)
      · cases hr
  | block id b ih =>
    intro t H r hr
    simp only [acode] at hr ⊢
    cases hb : acode P c k b t H with
    | none => rw [hb] at hr; cases hr
    | some s => rw [ih _ _ _ hb]; rw [hb] at hr; exact hr
  | loop b ih =>
    intro t H r hr
    simp only [acode] at hr ⊢
    exact iter_mono ih _ _ hk _ _ _ hr
  | scope b ih => intro t H r hr; simp only [acode] at hr ⊢; exact ih _ _ _ hr
  | exit id => intro t H r hr; exact hr
  | ret => intro t H r hr; exact hr
  | _ => intro t H r hr; simp [acode] at hr

theorem abody_mono {P : Program} {c c' : CallFn} (h : LeC c c') {k k' : Nat} (hk : k ≤ k') {fn : Func} {a : Array Value} {H : Heap} {r : Value × Heap}
    (hr : abody P c k fn a H = some r) : abody P c' k' fn a H = some r := by
  unfold abody at *
  cases hb : fn.body with
  | none => rw [hb] at hr; cases hr
  | some x =>
    simp only [hb] at hr ⊢
    cases ha : acode P c k x (enterT fn a) H with
    | none => rw [ha] at hr; cases hr
    | some s => rw [acode_mono h hk _ _ _ _ ha]; rw [ha] at hr; exact hr

theorem arun_mono (P : Program) (orc : Orc) : ∀ (k k' : Nat), k ≤ k' → LeC (arun P orc k) (arun P orc k') := by
  intro k
  induction k with
  | zero => intro k' _ f a H r hr; cases hr
  | succ k ih =>
    intro k' hk f a H r hr
    obtain ⟨m, rfl⟩ : ∃ m, k' = m + 1 := ⟨k' - 1, by omega⟩
    simp only [arun] at hr ⊢
    cases ho : orc f with
    | some g => rw [ho] at hr; exact hr
    | none =>
      rw [ho] at hr
      simp only at hr ⊢
      cases hf : P.funcs[f]? with
      | none => rw [hf] at hr; cases hr
      | some fn =>
        rw [hf] at hr
        simp only at hr ⊢
        split
        · rename_i hc; rw [if_pos hc] at hr; exact abody_mono (ih m (by omega)) (by omega) hr
        · rename_i hc; rw [if_neg hc] at hr; cases hr
end Go.Abs
