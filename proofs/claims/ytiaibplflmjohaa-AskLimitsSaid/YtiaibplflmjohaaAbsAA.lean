/- The abstract machine: what must hold ahead of a run, spelled in continuations. -/
import Derived.Test.YtiaibplflmjohaaAbsZ
set_option linter.unusedVariables false
set_option linter.unusedSimpArgs false
namespace Go.Abs
open Go Go.RowKit
set_option linter.unusedVariables false
set_option linter.unusedSimpArgs false

def obind {α : Type} (o : Option α) (k : α → Prop) : Prop :=
  match o with
  | some a => k a
  | none => False
theorem obind_some {α : Type} (a : α) (k : α → Prop) : obind (some a) k = k a := rfl
theorem obind_of {α : Type} {o : Option α} {a : α} {k : α → Prop} (h : o = some a) (hk : k a) : obind o k := by rw [h]; exact hk
theorem obind_elim {α : Type} {o : Option α} {k : α → Prop} (h : obind o k) : ∃ a, o = some a ∧ k a := by
  cases o with
  | none => exact h.elim
  | some a => exact ⟨a, rfl, h⟩

/-- A call ends, and what it gives is so. -/
def Ev (P : Program) (orc : Orc) (f : FuncId) (args : Array Value) (H : Heap) (Q : Value → Heap → Prop) : Prop := ∃ k v H', arun P orc k f args H = some (v, H') ∧ Q v H'
theorem Ev.mono {P : Program} {orc : Orc} {f : FuncId} {args : Array Value} {H : Heap} {Q Q' : Value → Heap → Prop} (h : Ev P orc f args H Q) (hq : ∀ v H', Q v H' → Q' v H') : Ev P orc f args H Q' := by
  obtain ⟨k, v, H', h1, h2⟩ := h
  exact ⟨k, v, H', h1, hq _ _ h2⟩

def boolV : Value → Option Bool
  | .bool b => some b
  | _ => none
def tupleV : Value → Option (Array Value)
  | .tuple vs => some vs
  | _ => none
def funcV : Value → Option (FuncId × Array Value × Array Value)
  | .func (.func g) first captured => some (g, first, captured)
  | _ => none
def ifaceV : Value → Option (TypeId × Value)
  | .iface t v => some (t, v)
  | _ => none
def nonNilV (v : Value) : Option Value := if nonNil v then some v else none
def unV (P : Program) (op : UnOp) (x : Value) : Option Value := if flat x then flatRes (purely P (Op.unary op x)) else none
def minV (P : Program) (ts : Array TypeId) (t : TypeId) (args : Array Value) : Option Value := if args.toList.all flat = true then flatRes (purely P (Builtin.min_ ts t args)) else none
def maxV (P : Program) (ts : Array TypeId) (t : TypeId) (args : Array Value) : Option Value := if args.toList.all flat = true then flatRes (purely P (Builtin.max_ ts t args)) else none
def ifaceOf (P : Program) (t : TypeId) (x : Value) : Option Value := if notIface P t then some (.iface t x) else none
def lenOf1 (P : Program) (args : List Value) (ts : List TypeId) (H : Heap) : Option Value :=
  match args, ts with
  | [x], [t] => alen P t x H
  | _, _ => none
/-- A slice written out: its cells. -/
def buildS (P : Program) (t : TypeId) (len : Nat) (parts : List (Nat × Value)) : Option (List Value) :=
  match elemT P t with
  | some (elem, size, _) =>
    match zeroT P elem with
    | some z => if len * size ≤ 2 ^ 24 ∧ z.cells.size = size ∧ 0 < size then fillL (fun i => some (i * size, size)) (repeatL z.cells.toList len) parts else none
    | none => none
  | none => none
/-- A slice made: its cells, its length, its capacity. -/
def makeS (P : Program) (t : TypeId) (l c : Value) : Option (List Value × Nat × Nat) :=
  match elemT P t, l, c with
  | some (elem, size, bytes), .int _ len, .int _ cap =>
    match zeroT P elem with
    | some z => if 0 ≤ len ∧ len ≤ cap ∧ cap < 2 ^ 47 ∧ cap * bytes ≤ 2 ^ 47 ∧ z.cells.size = size ∧ 0 < size then some (repeatL z.cells.toList cap.toNat, len.toNat, cap.toNat) else none
    | none => none
  | _, _, _ => none
def mapOk (P : Program) (t : TypeId) : Option Value → Option Unit
  | none => some ()
  | some (.int _ _) => (mapT P t).map fun _ => ()
  | some _ => none

def AWop (P : Program) (orc : Orc) (ev : Operand → Value) (o : Oper) (H : Heap) (K : Value → Heap → Prop) : Prop :=
  match o.op with
  | .move x | .assign x => K (ev x) H
  | .pick c a b => obind (boolV (ev c)) fun t => K (if t then ev a else ev b) H
  | .alloc elem => obind (zeroT P elem) fun z => K (ptr H.n 0) (H.push (.cells z.cells.toList .fix))
  | .box elem x => K (ptr H.n 0) (H.push (.cells (ev x).cells.toList .fix))
  | .load t a => obind (aload P t (ev a) H) fun v => K v H
  | .store t a x => obind (astore P t (ev a) (ev x) H) fun H' => K undefV H'
  | .build t parts => obind (buildL P t ((parts.map fun (i, x) => (i, ev x)).toList)) fun c => K (.agg c.toArray) H
  | .buildSlice t len parts => obind (buildS P t len ((parts.map fun (i, x) => (i, ev x)).toList)) fun c => K (slc H.n 0 len len) (H.push (.cells c .fix))
  | .nilCheck x => obind (nonNilV (ev x)) fun v => K v H
  | .binOp op t x y _ => obind (abin P op t x y (ev x) (ev y)) fun v => K v H
  | .unOp op _ x => obind (unV P op (ev x)) fun v => K v H
  | .convert src dst x => obind (aconvert P src dst (ev x) H) fun v => K v H
  | .makeInterface t x => obind (ifaceOf P t (ev x)) fun v => K v H
  | .makeFunc fn first captured => K (.func fn (first.map ev) (captured.map ev)) H
  | .makeMap t r => obind (mapOk P t (r.map ev)) fun _ => K (.map (some H.n)) (H.push (.map []))
  | .makeSlice t l c => obind (makeS P t (ev l) (ev c)) fun s => K (slc H.n 0 s.2.1 s.2.2) (H.push (.cells s.1 .fix))
  | .slice t x lo hi mx => obind (aslice P t (ev x) (lo.map ev) (hi.map ev) (mx.map ev) H) fun v => K v H
  | .fieldAddr s x f => obind (afieldAddr P s (ev x) f) fun v => K v H
  | .field t x f => obind (afield P t (ev x) f) fun v => K v H
  | .indexAddr t x ix => obind (aindexAddr P t (ev x) (ev ix)) fun v => K v H
  | .index t x ix => obind (aindex P t (ev x) (ev ix)) fun v => K v H
  | .extract x ix => obind (tupleV (ev x)) fun vs => obind (vs[ix]?) fun v => K v H
  | .lookup t x k ok => obind (alookup P t (ev x) (ev k) ok H) fun v => K v H
  | .mapUpdate t m k x | .insert t m k x => obind (aupdate P t (ev m) (ev k) (ev x) H) fun H' => K undefV H'
  | .call c =>
    match c.callee with
    | .builtin .len => obind (lenOf1 P (c.args.map ev).toList c.argTypes.toList H) fun v => K v H
    | .builtin .min => obind (minV P c.argTypes o.type (c.args.map ev)) fun v => K v H
    | .builtin .max => obind (maxV P c.argTypes o.type (c.args.map ev)) fun v => K v H
    | .builtin .append => obind (aappend P c.argTypes (c.args.map ev) H) fun r => K r.1 r.2
    | .builtin .copy => obind (acopy P c.argTypes (c.args.map ev) H) fun r => K r.1 r.2
    | .builtin _ => False
    | .value f => obind (funcV (ev f)) fun g => Ev P orc g.1 ((g.2.1 ++ c.args.map ev) ++ g.2.2) H K
    | .invoke r name => obind (ifaceV (ev r)) fun tv => obind (methodT P tv.1 name) fun f => Ev P orc f (#[tv.2] ++ c.args.map ev) H K
  | _ => False

/-- What an operation that reads gives at a heap. -/
def readOp (P : Program) (ev : Operand → Value) (o : Oper) (H : Heap) : Option Value :=
  match o.op with
  | .load t a => aload P t (ev a) H
  | .convert src dst x => aconvert P src dst (ev x) H
  | .slice t x lo hi mx => aslice P t (ev x) (lo.map ev) (hi.map ev) (mx.map ev) H
  | .lookup t x k ok => alookup P t (ev x) (ev k) ok H
  | .call c => match c.callee with
    | .builtin .len => lenOf1 P (c.args.map ev).toList c.argTypes.toList H
    | _ => none
  | _ => none

theorem astep_mono' {P : Program} {orc : Orc} {k k' : Nat} (h : k ≤ k') {ev : Operand → Value} {o : Oper} {H : Heap} {r : Value × Heap} (hs : astep P (arun P orc k) ev o H = some r) : astep P (arun P orc k') ev o H = some r :=
  astep_mono (arun_mono P orc k k' h) hs

theorem AWop_sound {P : Program} {orc : Orc} {ev : Operand → Value} {o : Oper} {H : Heap} {K : Value → Heap → Prop} (h : AWop P orc ev o H K) : ∃ k v H', astep P (arun P orc k) ev o H = some (v, H') ∧ K v H' := by
  have val : ∀ v H', aop P ev o H = some (.val v H') → K v H' → ∃ k v H', astep P (arun P orc k) ev o H = some (v, H') ∧ K v H' := by
    intro v H' h1 h2
    exact ⟨0, v, H', by unfold astep; rw [h1], h2⟩
  have cal : ∀ f args, aop P ev o H = some (.call f args) → Ev P orc f args H K → ∃ k v H', astep P (arun P orc k) ev o H = some (v, H') ∧ K v H' := by
    intro f args h1 ⟨k, v, H', h2, h3⟩
    exact ⟨k, v, H', by unfold astep; rw [h1]; exact h2, h3⟩
  obtain ⟨dst, op, type, pos, after, guard⟩ := o
  cases op <;> simp only [AWop] at h
  case move x => exact val _ _ (by simp only [aop]) h
  case assign x => exact val _ _ (by simp only [aop]) h
  case pick c a b =>
    obtain ⟨t, h1, h2⟩ := obind_elim h
    refine val _ _ ?_ h2
    simp only [aop]
    cases hc : ev c <;> rw [hc] at h1 <;> simp [boolV] at h1
    subst h1; rfl
  case alloc elem => obtain ⟨z, h1, h2⟩ := obind_elim h; exact val _ _ (by simp only [aop, h1, Option.map_some]) h2
  case box elem x => exact val _ _ (by simp only [aop]) h
  case load t a => obtain ⟨z, h1, h2⟩ := obind_elim h; exact val _ _ (by simp only [aop, h1, Option.map_some]) h2
  case store t a x => obtain ⟨z, h1, h2⟩ := obind_elim h; exact val _ _ (by simp only [aop, h1, Option.map_some]) h2
  case build t parts => obtain ⟨z, h1, h2⟩ := obind_elim h; exact val _ _ (by simp only [aop, h1, Option.map_some]) h2
  case buildSlice t len parts =>
    obtain ⟨z, h1, h2⟩ := obind_elim h
    refine val _ _ ?_ h2
    unfold buildS at h1
    simp only [aop]
    cases hT : elemT P t with
    | none => simp only [hT] at h1; cases h1
    | some y =>
      obtain ⟨elem, size, bytes⟩ := y
      simp only [hT] at h1 ⊢
      cases hz : zeroT P elem with
      | none => simp only [hz] at h1; cases h1
      | some z =>
        simp only [hz] at h1 ⊢
        split at h1
        · rename_i e3; rw [if_pos e3, h1]; rfl
        · cases h1
  case nilCheck x =>
    obtain ⟨z, h1, h2⟩ := obind_elim h
    refine val _ _ ?_ h2
    unfold nonNilV at h1
    simp only [aop]
    split at h1
    · rename_i e; injection h1 with h1; rw [if_pos e, h1]
    · cases h1
  case binOp op t x y yt => obtain ⟨z, h1, h2⟩ := obind_elim h; exact val _ _ (by simp only [aop, h1, Option.map_some]) h2
  case unOp op t x =>
    obtain ⟨z, h1, h2⟩ := obind_elim h
    refine val _ _ ?_ h2
    unfold unV at h1
    simp only [aop]
    split at h1
    · rename_i e; rw [if_pos e, h1]; rfl
    · cases h1
  case convert s d x => obtain ⟨z, h1, h2⟩ := obind_elim h; exact val _ _ (by simp only [aop, h1, Option.map_some]) h2
  case makeInterface t x =>
    obtain ⟨z, h1, h2⟩ := obind_elim h
    refine val _ _ ?_ h2
    unfold ifaceOf at h1
    simp only [aop]
    split at h1
    · rename_i e; injection h1 with h1; rw [if_pos e, h1]
    · cases h1
  case makeFunc fn first captured => exact val _ _ (by simp only [aop]) h
  case makeMap t r =>
    obtain ⟨z, h1, h2⟩ := obind_elim h
    refine val _ _ ?_ h2
    simp only [aop]
    cases r with
    | none => rfl
    | some x =>
      simp only [Option.map_some] at h1
      cases hx : ev x <;> rw [hx] at h1 <;> simp [mapOk] at h1
      obtain ⟨a, b, hm⟩ := h1
      simp only [hx, hm]
  case makeSlice t l c =>
    obtain ⟨s, h1, h2⟩ := obind_elim h
    refine val _ _ ?_ h2
    unfold makeS at h1
    simp only [aop]
    split at h1
    · rename_i e1 e2 e3
      simp only [e1, e2, e3]
      split at h1
      · rename_i e4
        simp only [e4]
        split at h1
        · rename_i e5; injection h1 with h1; rw [if_pos e5, ← h1]
        · cases h1
      · cases h1
    · cases h1
  case slice t x lo hi mx => obtain ⟨z, h1, h2⟩ := obind_elim h; exact val _ _ (by simp only [aop, h1, Option.map_some]) h2
  case fieldAddr s x f => obtain ⟨z, h1, h2⟩ := obind_elim h; exact val _ _ (by simp only [aop, h1, Option.map_some]) h2
  case field t x f => obtain ⟨z, h1, h2⟩ := obind_elim h; exact val _ _ (by simp only [aop, h1, Option.map_some]) h2
  case indexAddr t x ix => obtain ⟨z, h1, h2⟩ := obind_elim h; exact val _ _ (by simp only [aop, h1, Option.map_some]) h2
  case index t x ix => obtain ⟨z, h1, h2⟩ := obind_elim h; exact val _ _ (by simp only [aop, h1, Option.map_some]) h2
  case extract x ix =>
    obtain ⟨vs, h1, h2⟩ := obind_elim h
    obtain ⟨z, h3, h4⟩ := obind_elim h2
    refine val _ _ ?_ h4
    simp only [aop]
    cases hx : ev x <;> rw [hx] at h1 <;> simp [tupleV] at h1
    subst h1
    simp only [h3, Option.map_some]
  case lookup t x k ok => obtain ⟨z, h1, h2⟩ := obind_elim h; exact val _ _ (by simp only [aop, h1, Option.map_some]) h2
  case mapUpdate t m k x => obtain ⟨z, h1, h2⟩ := obind_elim h; exact val _ _ (by simp only [aop, h1, Option.map_some]) h2
  case insert t m k x => obtain ⟨z, h1, h2⟩ := obind_elim h; exact val _ _ (by simp only [aop, h1, Option.map_some]) h2
  case call c =>
    obtain ⟨callee, args, ts⟩ := c
    cases callee with
    | value f =>
      obtain ⟨⟨g, a, b⟩, h1, h2⟩ := obind_elim h
      refine cal _ _ ?_ h2
      simp only [aop]
      cases hx : ev f <;> rw [hx] at h1 <;> try (simp [funcV] at h1; done)
      rename_i fn first captured
      cases fn <;> simp [funcV] at h1
      obtain ⟨rfl, rfl, rfl⟩ := h1
      rfl
    | invoke r name =>
      obtain ⟨⟨t, v⟩, h1, h2⟩ := obind_elim h
      obtain ⟨f, h3, h4⟩ := obind_elim h2
      refine cal _ _ ?_ h4
      simp only [aop]
      cases hx : ev r <;> rw [hx] at h1 <;> simp [ifaceV] at h1
      obtain ⟨rfl, rfl⟩ := h1
      simp only [h3, Option.map_some]
    | builtin b =>
      cases b <;> simp only at h
      case len =>
        obtain ⟨z, h1, h2⟩ := obind_elim h
        refine val _ _ ?_ h2
        unfold lenOf1 at h1
        simp only [aop]
        split at h1
        · rename_i e1 e2; simp only [e1, e2, h1, Option.map_some]
        · cases h1
      case min =>
        obtain ⟨z, h1, h2⟩ := obind_elim h
        refine val _ _ ?_ h2
        unfold minV at h1
        simp only [aop]
        split at h1
        · rename_i e; rw [if_pos e, h1]; rfl
        · cases h1
      case max =>
        obtain ⟨z, h1, h2⟩ := obind_elim h
        refine val _ _ ?_ h2
        unfold maxV at h1
        simp only [aop]
        split at h1
        · rename_i e; rw [if_pos e, h1]; rfl
        · cases h1
      case append => obtain ⟨z, h1, h2⟩ := obind_elim h; exact val _ _ (by simp only [aop, h1, Option.map_some]) h2
      case copy => obtain ⟨z, h1, h2⟩ := obind_elim h; exact val _ _ (by simp only [aop, h1, Option.map_some]) h2
  all_goals exact h.elim
end Go.Abs
