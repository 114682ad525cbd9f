/- The abstract machine: maps read, lengths; all that reads, in one theorem. -/
import Derived.Test.YtiaibplflmjohaaAbsJ
set_option linter.unusedVariables false
set_option linter.unusedSimpArgs false
namespace Go.Abs
open Go Go.RowKit
set_option linter.unusedVariables false
set_option linter.unusedSimpArgs false

theorem MR.length_eq {ρ : Ren} : ∀ {es : List (Value × Value)} {ms : List MapEntry}, MR ρ es ms → ms.length = es.length
  | _, _, .nil => rfl
  | _, _, .cons k v m l ms h1 h2 h3 => by simp [MR.length_eq h3]
theorem MR.get {ρ : Ren} : ∀ {es : List (Value × Value)} {ms : List MapEntry}, MR ρ es ms → ∀ (i : Nat) (e : Value × Value), es[i]? = some e → ∃ m, ms[i]? = some m ∧ VR ρ e.1 m.key ∧ VR ρ e.2 m.val
  | _, _, .nil, i, e, h => by simp at h
  | _, _, .cons k v m l ms h1 h2 h3, 0, e, h => by simp at h; subst h; exact ⟨m, by simp, h1, h2⟩
  | _, _, .cons k v m l ms h1 h2 h3, i + 1, e, h => by
    obtain ⟨m', g1, g2⟩ := MR.get h3 i e (by simpa using h)
    exact ⟨m', by simpa using g1, g2⟩

/-- What a search tells of rows that stand to one another: the same place. -/
def SameAt (ms : List MapEntry) (i : Nat) : Option (Nat × Value) → Option (Nat × Value) → Prop
  | none, none => True
  | some (j, _), some (j', v') => j' = j ∧ i ≤ j ∧ ∃ m, ms[j - i]? = some m ∧ m.val = v'
  | _, _ => False

theorem findNow_sim {ρ : Ren} (kind : TypeDesc) (k : Value) : ∀ {es : List (Value × Value)} {ms : List MapEntry}, MR ρ es ms → keyFlat es = true → ∀ i,
    match Instr.findNow kind k (asEntries es) i with
    | none => Instr.findNow kind k ms i = none
    | some r => ∃ r', Instr.findNow kind k ms i = some r' ∧ SameAt ms i r r' := by
  intro es ms h
  induction h with
  | nil => intro _ i; simp [asEntries, Instr.findNow, SameAt]
  | cons k0 v0 m l ms h1 h2 h3 ih =>
    intro hk i
    simp only [keyFlat, List.all_cons, Bool.and_eq_true] at hk
    have hkey : m.key = k0 := h1.flat_eq hk.1
    have ih := ih (by simpa [keyFlat] using hk.2) (i + 1)
    simp only [asEntries, List.map_cons, Instr.findNow, hkey]
    cases hs : Instr.sameNow kind k k0 with
    | none => simp
    | some b =>
      cases b with
      | true => simp only; exact ⟨_, rfl, rfl, Nat.le_refl _, m, by simp, rfl⟩
      | false =>
        simp only
        simp only [asEntries] at ih
        split
        · rename_i e; rw [e] at ih; exact ih
        · rename_i r e
          rw [e] at ih
          obtain ⟨r', e', hr⟩ := ih
          refine ⟨r', e', ?_⟩
          cases r with
          | none => cases r' with
            | none => trivial
            | some y => cases hr
          | some x => cases r' with
            | none => cases hr
            | some y =>
              obtain ⟨g1, g2, m', g3, g4⟩ := hr
              refine ⟨g1, by omega, m', ?_, g4⟩
              rw [show x.1 - i = (x.1 - (i + 1)) + 1 by omega]
              simpa using g3

theorem findAsking_sim {P : Program} {ρ : Ren} (kt : TypeId) (k : Value) : ∀ {es : List (Value × Value)} {ms : List MapEntry}, MR ρ es ms → keyFlat es = true → ∀ i r,
    purely P (Instr.findAsking kt k (asEntries es) i) = some r → ∃ r', purely P (Instr.findAsking kt k ms i) = some r' ∧ SameAt ms i r r' := by
  intro es ms h
  induction h with
  | nil =>
    intro _ i r hr
    simp only [asEntries, List.map_nil, Instr.findAsking, purely_pure, Option.some.injEq] at hr
    subst hr
    exact ⟨none, by simp [Instr.findAsking, purely_pure], trivial⟩
  | cons k0 v0 m l ms h1 h2 h3 ih =>
    intro hk i r hr
    simp only [keyFlat, List.all_cons, Bool.and_eq_true] at hk
    have hkey : m.key = k0 := h1.flat_eq hk.1
    simp only [asEntries, List.map_cons, Instr.findAsking, purely_bind] at hr ⊢
    rw [hkey]
    cases he : purely P (Op.equal kt k k0) with
    | none => simp [he] at hr
    | some b =>
      simp only [he, Option.bind_some] at hr ⊢
      cases b with
      | true =>
        simp only [if_true, purely_pure, Option.some.injEq] at hr ⊢
        subst hr
        exact ⟨_, rfl, rfl, Nat.le_refl _, m, by simp, rfl⟩
      | false =>
        simp only [Bool.false_eq_true, if_false] at hr ⊢
        obtain ⟨r', e', hs⟩ := ih (by simpa [keyFlat] using hk.2) (i + 1) r (by simpa [asEntries] using hr)
        refine ⟨r', e', ?_⟩
        cases r with
        | none => cases r' with
          | none => trivial
          | some y => cases hs
        | some x => cases r' with
          | none => cases hs
          | some y =>
            obtain ⟨g1, g2, m', g3, g4⟩ := hs
            refine ⟨g1, by omega, m', ?_, g4⟩
            rw [show x.1 - i = (x.1 - (i + 1)) + 1 by omega]
            simpa using g3

theorem findKey_sim {P : Program} {ρ : Ren} (kt : TypeId) (k : Value) {es : List (Value × Value)} {ms : List MapEntry} (h : MR ρ es ms) (hk : keyFlat es = true) {r : Option (Nat × Value)}
    (hr : purely P (Instr.findKey kt k (asEntries es)) = some r) : ∃ r', purely P (Instr.findKey kt k ms) = some r' ∧ SameAt ms 0 r r' := by
  unfold Instr.findKey at hr ⊢
  simp only [purely_bind] at hr ⊢
  cases hu : purely P (underlying kt) with
  | none => simp [hu] at hr
  | some d =>
    simp only [hu, Option.bind_some] at hr ⊢
    have := findNow_sim d k h hk 0
    cases hn : Instr.findNow d k (asEntries es) 0 with
    | none =>
      rw [hn] at this hr
      simp only at this hr
      rw [this]
      exact findAsking_sim kt k h hk 0 r hr
    | some q =>
      rw [hn] at this hr
      simp only [purely_pure, Option.some.injEq] at this hr
      subst hr
      obtain ⟨r', e, hs⟩ := this
      rw [e]
      exact ⟨r', rfl, hs⟩

theorem find_sim {P : Program} {ρ : Ren} {kt : TypeId} {k : Value} {es : List (Value × Value)} {ms : List MapEntry} (h : MR ρ es ms) {r : Option Nat} (hr : findT P kt k es = some r) (w : World) :
    flat k = true ∧ (Instr.checkKey ms.isEmpty 10000 kt k).run P w = .ok () w ∧ (Instr.checkKey false 10000 kt k).run P w = .ok () w ∧
    ∃ r', (Instr.findKey kt k ms).run P w = .ok r' w ∧ (match r, r' with
      | none, none => True
      | some i, some (j, v) => j = i ∧ ∃ m, ms[i]? = some m ∧ m.val = v
      | _, _ => False) := by
  unfold findT at hr
  split at hr
  · rename_i hf
    obtain ⟨hf1, hf2⟩ := hf
    cases h1 : purely P (Instr.checkKey es.isEmpty 10000 kt k) with
    | none => simp [h1] at hr
    | some u =>
      cases h2 : purely P (Instr.checkKey false 10000 kt k) with
      | none => simp [h1, h2] at hr
      | some u' =>
        simp only [h1, h2, Option.map_eq_some_iff] at hr
        obtain ⟨q, hq, rfl⟩ := hr
        obtain ⟨r', e, hs⟩ := findKey_sim kt k h hf2 hq
        have he : ms.isEmpty = es.isEmpty := by
          have := h.length_eq
          cases ms <;> cases es <;> simp at this ⊢
        refine ⟨hf1, by rw [he]; exact purely_run' w h1, purely_run' w h2, r', purely_run' w e, ?_⟩
        cases q with
        | none => cases r' with
          | none => trivial
          | some y => cases hs
        | some x => cases r' with
          | none => cases hs
          | some y =>
            obtain ⟨g1, g2, m, g3, g4⟩ := hs
            exact ⟨g1, m, by simpa using g3, g4⟩
  · cases hr

theorem mapT_some {P : Program} {t : TypeId} {x : TypeId × TypeId} (h : mapT P t = some x) : P.underlying t = some (.map x.1 x.2) := by
  unfold mapT at h
  split at h
  · rename_i k e hu; injection h with h; subst h; exact hu
  · cases h

theorem aget_sim {P : Program} {ρ : Ren} {t : TypeId} {es : List (Value × Value)} {k k' v : Value} {ok : Bool} (h : aget P t es k ok = some v) (hk : VR ρ k k') {ms : Array MapEntry} (hm : MR ρ es ms.toList)
    (x' : Value) (w : World) (hx : (x' = .map none ∧ ms = #[]) ∨ ∃ r cl, x' = .map (some r) ∧ w.heap[r]? = some (.map ms cl)) :
    ∃ cv, (Instr.lookup t x' k' ok).run P w = .ok cv w ∧ VR ρ v cv := by
  unfold aget at h
  cases hT : mapT P t with
  | none => simp [hT] at h
  | some y =>
    obtain ⟨key, elem⟩ := y
    simp only [hT] at h
    have hu := mapT_some hT
    simp only at hu
    cases hf : findT P key k es with
    | none => simp [hf] at h
    | some r =>
      simp only [hf] at h
      obtain ⟨hfl, hc, _, r', hr, hrel⟩ := find_sim hm hf w
      have hkk : k' = k := hk.flat_eq hfl
      subst hkk
      have hie : ms.isEmpty = ms.toList.isEmpty := by simp
      have hc' : (Instr.checkKey ms.isEmpty 10000 key k').run P w = .ok () w := by rw [hie]; exact hc
      have go : ∀ (res : Value), (∀ tail : Option (Nat × Value) → Sem Value, (tail r').run P w = .ok res w → (do
            Instr.checkKey ms.isEmpty 10000 key k'
            tail (← Instr.findKey key k' ms.toList) : Sem Value).run P w = .ok res w) := by
        intro res tail ht
        simp only [Sem.run_bind, hc', Result.andThen_ok, hr, ht]
      have fin : ∀ (res : Value), ((match r' with
          | some (_, v) => pure (if ok then .tuple #[v, .bool true] else v)
          | none => do let z ← zeroValue elem; pure (if ok then .tuple #[z, .bool false] else z) : Sem Value).run P w = .ok res w) → (Instr.lookup t x' k' ok).run P w = .ok res w := by
        intro res ht
        rcases hx with ⟨e1, e2⟩ | ⟨r0, cl, e1, e2⟩
        · subst e1; subst e2
          unfold Instr.lookup
          simp only [Sem.run_bind, run_under hu, Result.andThen_ok, Sem.run_pure, hc', hr]
          cases r' with
          | none => simpa using ht
          | some q => simpa using ht
        · subst e1
          unfold Instr.lookup
          have hg : (getObj r0).run P w = .ok (.map ms cl) w := by simp [getObj, Sem.run, e2]
          simp only [Sem.run_bind, run_under hu, Result.andThen_ok, Sem.run_pure, hg, hc', hr]
          cases r' with
          | none => simpa using ht
          | some q => simpa using ht
      cases r with
      | some i =>
        cases r' with
        | none => cases hrel
        | some q =>
          obtain ⟨j, u⟩ := q
          obtain ⟨rfl, m, hmi, rfl⟩ := hrel
          simp only [Option.map_eq_some_iff] at h
          obtain ⟨e, he, rfl⟩ := h
          obtain ⟨m', hm', g1, g2⟩ := hm.get j e he
          rw [hmi] at hm'; injection hm' with hm'; subst hm'
          cases ok with
          | true => exact ⟨.tuple #[m.val, .bool true], fin _ (by simp), .tuple _ _ (.cons _ _ _ _ g2 (.cons _ _ _ _ (.flat _ rfl) .nil))⟩
          | false => exact ⟨m.val, fin _ (by simp), g2⟩
      | none =>
        cases r' with
        | some q => cases hrel
        | none =>
          simp only [Option.map_eq_some_iff] at h
          obtain ⟨z, hz, rfl⟩ := h
          obtain ⟨z1, z2⟩ := run_zero (w := w) hz
          cases ok with
          | true => exact ⟨.tuple #[z, .bool false], fin _ (by simp [z1]), .tuple _ _ (.cons _ _ _ _ (.flat _ z2) (.cons _ _ _ _ (.flat _ rfl) .nil))⟩
          | false => exact ⟨z, fin _ (by simp [z1]), .flat _ z2⟩

theorem lookup_sim {P : Program} {B0 : Nat} {ρ : Ren} {H : Heap} {w : World} (r : Rel B0 ρ H w) {t : TypeId} {x x' k k' v : Value} {ok : Bool} (h : alookup P t x k ok H = some v) (hx : VR ρ x x') (hk : VR ρ k k') :
    ∃ cv, (Instr.lookup t x' k' ok).run P w = .ok cv w ∧ VR ρ v cv := by
  unfold alookup at h
  split at h
  · have := hx.flat_eq rfl; subst this
    exact aget_sim h hk (ms := #[]) .nil _ w (.inl ⟨rfl, rfl⟩)
  · rename_i id
    obtain ⟨L, hL, rfl⟩ := hx.map_inv
    split at h
    · rename_i es hb
      obtain ⟨_, ms, cl, hm, hr⟩ := r.maps id L es hL hb
      exact aget_sim h hk hr _ w (.inr ⟨L.cb, cl, rfl, hm⟩)
    · cases h
  · cases h

theorem len_sim {P : Program} {B0 : Nat} {ρ : Ren} {H : Heap} {w : World} (r : Rel B0 ρ H w) {t ty : TypeId} {x x' v : Value} (h : alen P t x H = some v) (hx : VR ρ x x') :
    ∃ cv, (Builtin.len_ #[t] ty #[x']).run P w = .ok cv w ∧ VR ρ v cv := by
  unfold alen at h
  split at h
  · rename_i id
    obtain ⟨L, hL, rfl⟩ := hx.map_inv
    split at h
    · rename_i es y hb hT
      injection h with h; subst h
      obtain ⟨_, ms, cl, hm, hr⟩ := r.maps id L es hL hb
      refine ⟨.int .i64 es.length, ?_, .flat _ rfl⟩
      have hu := mapT_some hT
      have hl : ms.size = es.length := by have := hr.length_eq; simpa using this
      simp [Builtin.len_, run_under hu, getObj, Sem.run, hm, goInt, hl]
    · cases h
  · have := hx.flat_eq rfl; subst this
    simp only [Option.map_eq_some_iff] at h
    obtain ⟨y, hT, rfl⟩ := h
    exact ⟨_, by simp [Builtin.len_, run_under (mapT_some hT), goInt], .flat _ rfl⟩
  · rename_i a n c
    simp only [Option.map_eq_some_iff] at h
    obtain ⟨y, hT, rfl⟩ := h
    obtain ⟨inf, hu, _⟩ := elemT_some hT
    refine ⟨.int .i64 n, ?_, .flat _ rfl⟩
    cases hx with
    | flat => simp [Builtin.len_, run_under hu, goInt]
    | slice => simp [Builtin.len_, run_under hu, goInt]
  · rename_i s
    have := hx.string_inv; subst this
    split at h
    · rename_i hu
      injection h with h; subst h
      exact ⟨_, by simp [Builtin.len_, run_under hu, goInt], .flat _ rfl⟩
    · cases h
  · rename_i cs
    obtain ⟨b, rfl, _⟩ := hx.agg_inv
    simp only [Option.map_eq_some_iff] at h
    obtain ⟨y, hT, rfl⟩ := h
    obtain ⟨inf, hu, _⟩ := arrT_some hT
    exact ⟨_, by simp [Builtin.len_, run_under hu, goInt], .flat _ rfl⟩
  · rename_i a
    have hp : ∃ b, x' = .pointer b := by cases hx <;> exact ⟨_, rfl⟩
    obtain ⟨b, rfl⟩ := hp
    split at h
    · rename_i arr hu
      simp only [Option.map_eq_some_iff] at h
      obtain ⟨y, hT, rfl⟩ := h
      obtain ⟨inf, hu2, _⟩ := arrT_some hT
      exact ⟨_, by simp [Builtin.len_, run_under hu, run_under hu2, goInt], .flat _ rfl⟩
    · rename_i n e hu
      injection h with h; subst h
      exact ⟨_, by simp [Builtin.len_, run_under hu, goInt], .flat _ rfl⟩
    · cases h
  · cases h

theorem opt_map {ρ : Ren} {ev cev : Operand → Value} {x : Option Operand} (h : ∀ y, x = some y → VR ρ (ev y) (cev y)) :
    (∀ v, x.map ev = some v → ∃ v', x.map cev = some v' ∧ VR ρ v v') ∧ (x.map ev = none → x.map cev = none) := by
  cases x with
  | none => simp
  | some y => simp; exact h y rfl

/-- What reads. -/
theorem read_sim {P : Program} {ev : Operand → Value} {o : Oper} {H H' : Heap} {v : Value} (hk : kindOf o.op = .read) (h : aop P ev o H = some (.val v H')) :
    H' = H ∧ ∀ (B0 : Nat) (ρ : Ren) (w : World) (cev : Operand → Value), Rel B0 ρ H w → OpsVR ρ ev cev o → ∃ cv, (execOp cev o).run P w = .ok (.value cv) w ∧ VR ρ v cv := by
  obtain ⟨dst, op, type, pos, after, guard⟩ := o
  cases op <;> simp only [kindOf] at hk <;> try (cases hk)
  case load t a =>
    simp only [aop, Option.map_eq_some_iff] at h
    obtain ⟨c, hc, h⟩ := h
    injection h with h1 h2; subst h1; subst h2
    refine ⟨rfl, fun B0 ρ w cev r hv => ?_⟩
    obtain ⟨cv, g1, g2⟩ := load_sim r hc (hv a (by simp [Op.operands]))
    exact ⟨cv, by simp [execOp, g1], g2⟩
  case convert s d x =>
    simp only [aop, Option.map_eq_some_iff] at h
    obtain ⟨c, hc, h⟩ := h
    injection h with h1 h2; subst h1; subst h2
    refine ⟨rfl, fun B0 ρ w cev r hv => ?_⟩
    obtain ⟨cv, g1, g2⟩ := convert_sim r hc (hv x (by simp [Op.operands]))
    exact ⟨cv, by simp [execOp, g1], g2⟩
  case slice t x lo hi mx =>
    simp only [aop, Option.map_eq_some_iff] at h
    obtain ⟨c, hc, h⟩ := h
    injection h with h1 h2; subst h1; subst h2
    refine ⟨rfl, fun B0 ρ w cev r hv => ?_⟩
    have a1 := opt_map (ρ := ρ) (ev := ev) (cev := cev) (x := lo) fun y hy => hv y (by simp [Op.operands, hy])
    have a2 := opt_map (ρ := ρ) (ev := ev) (cev := cev) (x := hi) fun y hy => hv y (by simp [Op.operands, hy])
    have a3 := opt_map (ρ := ρ) (ev := ev) (cev := cev) (x := mx) fun y hy => hv y (by simp [Op.operands, hy])
    obtain ⟨cv, g1, g2⟩ := slice_sim r hc (hv x (by simp [Op.operands])) a1.1 a1.2 a2.1 a2.2 a3.1 a3.2
    exact ⟨cv, by simp [execOp, g1], g2⟩
  case lookup t x k ok =>
    simp only [aop, Option.map_eq_some_iff] at h
    obtain ⟨c, hc, h⟩ := h
    injection h with h1 h2; subst h1; subst h2
    refine ⟨rfl, fun B0 ρ w cev r hv => ?_⟩
    obtain ⟨cv, g1, g2⟩ := lookup_sim r hc (hv x (by simp [Op.operands])) (hv k (by simp [Op.operands]))
    exact ⟨cv, by simp [execOp, g1], g2⟩
  case call c =>
    obtain ⟨callee, args, ts⟩ := c
    cases callee with
    | value f => simp [kindOf] at hk
    | invoke r n => simp [kindOf] at hk
    | builtin b =>
      cases b <;> simp [kindOf] at hk
      simp only [aop] at h
      split at h
      · rename_i x t hx ht
        simp only [Option.map_eq_some_iff] at h
        obtain ⟨c, hc, h⟩ := h
        injection h with h1 h2; subst h1; subst h2
        refine ⟨rfl, fun B0 ρ w cev r hv => ?_⟩
        have hargs := VRs_map (ρ := ρ) args (ev := ev) (cev := cev) fun y hy => hv y (by simp [Op.operands, Call.operands, hy])
        rw [hx] at hargs
        have hcs : ∃ x', (args.map cev).toList = [x'] ∧ VR ρ x x' := by
          generalize (args.map cev).toList = l at hargs
          cases hargs with
          | cons _ b _ _ h1 h2 => cases h2 with
            | nil => exact ⟨b, rfl, h1⟩
        obtain ⟨x', hx', hxr⟩ := hcs
        obtain ⟨cv, g1, g2⟩ := len_sim (ty := type) r hc hxr
        refine ⟨cv, ?_, g2⟩
        rw [exec_builtin cev _ .len args ts rfl]
        have e1 : args.map cev = #[x'] := by rw [← Array.toArray_toList (xs := args.map cev), hx']
        have e2 : ts = #[t] := by rw [← Array.toArray_toList (xs := ts), ht]
        rw [e1, e2]
        simp [builtin, g1]
      · cases h
end Go.Abs
