/- The abstract machine: operations that make memory, beside the model's. -/
import Derived.Test.YtiaibplflmjohaaAbsK
import Derived.IntWalk
set_option linter.unusedVariables false
set_option linter.unusedSimpArgs false
namespace Go.Abs
open Go Go.RowKit
set_option linter.unusedVariables false
set_option linter.unusedSimpArgs false

theorem repeatL_length (z : List Value) : ∀ n, (repeatL z n).length = n * z.length
  | 0 => by simp [repeatL]
  | n + 1 => by rw [repeatL, List.length_append, repeatL_length z n, Nat.add_mul]; omega
theorem repeatL_get (z : List Value) (hz : 0 < z.length) : ∀ (n i : Nat), i < n * z.length → (repeatL z n)[i]? = z[i % z.length]?
  | 0, i, h => by simp at h
  | n + 1, i, h => by
    rw [repeatL]
    by_cases hi : i < z.length
    · rw [List.getElem?_append_left hi, Nat.mod_eq_of_lt hi]
    · rw [List.getElem?_append_right (by omega), repeatL_get z hz n _ (by rw [Nat.add_mul] at h; omega)]
      congr 1
      rw [← Nat.mod_eq_sub_mod (by omega)]
theorem repeat_range (z : Array Value) (n : Nat) (hz : 0 < z.size) : (Array.range (n * z.size)).map (fun i => z[i % z.size]!) = (⟨repeatL z.toList n⟩ : Array Value) := by
  apply Array.toList_inj.1
  apply List.ext_getElem?
  intro i
  have hl : (repeatL z.toList n).length = n * z.size := by rw [repeatL_length]; simp
  by_cases hi : i < n * z.size
  · have hm : i % z.size < z.size := Nat.mod_lt _ hz
    show _ = (repeatL z.toList n)[i]?
    rw [repeatL_get z.toList (by simpa using hz) n i (by simpa using hi)]
    have e : z[i % z.size]! = z[i % z.size] := getElem!_pos z (i % z.size) hm
    simp [hi, Array.getElem?_eq_getElem hm, e]
  · show _ = (repeatL z.toList n)[i]?
    rw [List.getElem?_eq_none (by simp; omega), List.getElem?_eq_none (by omega)]
theorem flat_cells {z : Value} (h : flat z = true) : flatL z.cells.toList = true := by
  cases z <;> simp only [Value.cells] <;> first
    | simpa [flatL] using h
    | (rename_i x; cases x; simpa [Abs.flat, flatA] using h)
theorem flatL_append : ∀ (a b : List Value), flatL a = true → flatL b = true → flatL (a ++ b) = true
  | [], _, _, hb => hb
  | x :: xs, b, ha, hb => by
    simp [flatL] at ha ⊢
    exact ⟨ha.1, flatL_append xs b ha.2 hb⟩
theorem flat_repeat {z : Value} (h : flat z = true) : ∀ n, flatL (repeatL z.cells.toList n) = true
  | 0 => rfl
  | n + 1 => by rw [repeatL]; exact flatL_append _ _ (flat_cells h) (flat_repeat h n)
theorem run_asInt {P : Program} (w : World) (k : IntKind) (n : Int) : (asInt (.int k n)).run P w = .ok n w := by
  simp [asInt, asIntOf]

theorem get_push_self (H : Heap) (b : Blk) : (H.push b).get H.n = some b := by rw [Heap.get_push, if_pos rfl]

/-- What makes a row: what is asked of it. -/
def Makes (P : Program) (o : Oper) (ev : Operand → Value) (id : Nat) (b : Blk) (v : Value) : Prop :=
  ∀ (H2 : Heap) (B0 : Nat) (ρ : Ren) (w : World) (cev : Operand → Value), Rel B0 ρ H2 w → id < H2.n → ρ id = none → H2.get id = some b → OpsVR ρ ev cev o →
    ∃ cv w' L, (execOp cev o).run P w = .ok (.value cv) w' ∧ VR (ρ.upd id L) v cv ∧ Rel B0 (ρ.upd id L) H2 w' ∧ Below B0 w w'

theorem makes_cells {P : Program} {o : Oper} {ev : Operand → Value} {id : Nat} {c : List Value} {v : Value} (n : Nat) (hn : n ≤ c.length ∨ True)
    (h : ∀ (ρ : Ren) (w : World) (cev : Operand → Value), OpsVR ρ ev cev o → ∃ (cs : Array Value) (t : TypeId) (cv : Value), (execOp cev o).run P w = .ok (.value cv) (w.alloc (.cells cs t)) ∧ VRs ρ c cs.toList ∧
      ∀ ρ' : Ren, ρ' id = some ⟨w.heap.size, 0, cs.size, .fix⟩ → VR ρ' v cv) : Makes P o ev id (.cells c .fix) v := by
  intro H2 B0 ρ w cev r hid hno hb hv
  obtain ⟨cs, t, cv, g1, g2, g3⟩ := h ρ w cev hv
  have hl := g2.length_eq
  obtain ⟨k1, k2⟩ := r.new id hid hno c .fix hb (by simp) cs t ⟨w.heap.size, 0, cs.size, .fix⟩ rfl rfl rfl (fun i v hi => by simpa using g2.get i v hi) (by simp at hl; omega) rfl
  exact ⟨cv, _, _, g1, g3 _ (Ren.upd_same _ _ _), k1, (Below.refl _ _).alloc r.low _⟩

theorem newRow_run {P : Program} (w : World) (t : TypeId) (cs : Array Value) : (newRow t cs).run P w = .ok ⟨w.heap.size, 0, none⟩ (w.alloc (.cells cs t)) := by
  simp [newRow]

theorem fill_size : ∀ (place : Nat → Option (Nat × Nat)) (ps : List (Nat × Value)) (c out : List Value), fillL place c ps = some out → out.length = c.length := by
  intro place ps
  induction ps with
  | nil => intro c out h; simp [fillL] at h; rw [h]
  | cons p ps ih =>
    intro c out h
    obtain ⟨i, v⟩ := p
    simp only [fillL] at h
    split at h
    · cases h
    · split at h
      · cases h
      · rw [ih _ _ h, writeAt_length]

theorem make_sim {P : Program} {ev : Operand → Value} {o : Oper} {H H' : Heap} {v : Value} (hk : kindOf o.op = .make) (h : aop P ev o H = some (.val v H')) :
    ∃ b, H' = H.push b ∧ Makes P o ev H.n b v := by
  obtain ⟨dst, op, type, pos, after, guard⟩ := o
  cases op <;> simp only [kindOf] at hk <;> try (cases hk)
  case alloc elem =>
    simp only [aop, Option.map_eq_some_iff] at h
    obtain ⟨z, hz, h⟩ := h
    injection h with h1 h2; subst h1; subst h2
    refine ⟨_, rfl, makes_cells 0 (.inr trivial) fun ρ w cev hv => ?_⟩
    obtain ⟨z1, z2⟩ := run_zero (w := w) hz
    refine ⟨z.cells, elem, .pointer (some ⟨w.heap.size, 0, none⟩), ?_, (VR.flat z z2).cells, fun ρ' hρ => .ptr H.n 0 _ hρ⟩
    simp [execOp, Instr.alloc, z1, newVar, newRow_run]
  case box elem x =>
    simp only [aop, Option.some.injEq, ARes.val.injEq] at h
    obtain ⟨h1, h2⟩ := h; subst h1; subst h2
    refine ⟨_, rfl, makes_cells 0 (.inr trivial) fun ρ w cev hv => ?_⟩
    have hx := hv x (by simp [Op.operands])
    refine ⟨(cev x).cells, elem, .pointer (some ⟨w.heap.size, 0, none⟩), ?_, hx.cells, fun ρ' hρ => .ptr H.n 0 _ hρ⟩
    simp [execOp, Instr.box, newVar, newRow_run]
  case buildSlice t len parts =>
    simp only [aop] at h
    split at h
    · rename_i elem size bytes hT
      split at h
      · rename_i z hz
        split at h
        · rename_i hc
          obtain ⟨hc1, hc2, hc3⟩ := hc
          simp only [Option.map_eq_some_iff] at h
          obtain ⟨c, hcc, h⟩ := h
          injection h with h1 h2; subst h1; subst h2
          obtain ⟨inf, hu, hi, hs, _⟩ := elemT_some hT
          simp only at hu hi hs
          refine ⟨_, rfl, makes_cells 0 (.inr trivial) fun ρ w cev hv => ?_⟩
          obtain ⟨z1, z2⟩ := run_zero (w := w) hz
          have hself : VRs ρ (repeatL z.cells.toList len) (repeatL z.cells.toList len) := VRs.refl_flat ρ _ (flat_repeat z2 len)
          obtain ⟨out, ho, hr⟩ := fill_sim (ρ := ρ) _ _ _ _ _ c hcc hself (parts_fst parts ev cev) (parts_snd (ρ := ρ) parts (f := ev) (g := cev) (fun x hx => hv x (by simpa [Op.operands] using hx)))
          have hol : out.length = len * size := by
            have := hr.length_eq
            have := fill_size _ _ _ _ hcc
            rw [repeatL_length] at this
            simp only [Array.length_toList] at this
            rw [← hc2]; omega
          refine ⟨⟨out⟩, elem, .slice (some ⟨w.heap.size, 0, none⟩) len len, ?_, hr, fun ρ' hρ => ?_⟩
          · have hz3 : ((if len * size = 0 then pure #[] else do pure (← zeroValue elem).cells : Sem (Array Value))).run P w = .ok (if len * size = 0 then #[] else z.cells) w := by
              split
              · rfl
              · simp [z1]
            have hfill : Instr.fill (fun i => some (i * size, size)) ((Array.range (len * size)).map ((if len * size = 0 then #[] else z.cells)[· % (if len * size = 0 then (#[] : Array Value) else z.cells).size]!)) (parts.map fun (i, x) => (i, cev x)).toList = some ⟨out⟩ := by
              rw [← ho]
              congr 1
              by_cases h0 : len * size = 0
              · have : len = 0 := by
                  rcases Nat.mul_eq_zero.1 h0 with h' | h'
                  · exact h'
                  · omega
                subst this
                simp [repeatL]
              · rw [if_neg h0, ← hc2]
                exact repeat_range z.cells len (by omega)
            have hlim : ¬ (len * size > 2 ^ 24) := by omega
            subst hs
            simp only [execOp, Instr.buildSlice, Sem.run_bind, run_under hu, Result.andThen_ok, run_size hi, if_neg hlim]
            by_cases h0 : len * inf.size = 0
            · rw [if_pos h0] at hfill ⊢
              simp only [Sem.run_pure, Result.andThen_ok, Sem.run_bind, hfill]
              simp [newRow_run]
            · rw [if_neg h0] at hfill ⊢
              simp only [Sem.run_pure, Result.andThen_ok, Sem.run_bind, z1, hfill]
              simp [newRow_run]
          · exact .slice H.n 0 len len 0 len _ hρ (Nat.le_refl _) (Nat.le_refl _) (fun _ => rfl) (fun _ => ⟨rfl, rfl⟩) (fun es he => by cases he)
        · cases h
      · cases h
    · cases h
  case makeMap t r =>
    have fin : ∀ (cev : Operand → Value) (w : World), (execOp cev ⟨dst, .makeMap t r, type, pos, after, guard⟩).run P w = .ok (.value (.map (some w.heap.size))) (w.alloc (.map #[] 0)) → True := fun _ _ _ => trivial
    have mk : ∀ H2 : Heap, ∀ (B0 : Nat) (ρ : Ren) (w : World), Rel B0 ρ H2 w → H.n < H2.n → ρ H.n = none → H2.get H.n = some (.map []) →
        ∃ L : Loc, VR (ρ.upd H.n L) (.map (some H.n)) (.map (some w.heap.size)) ∧ Rel B0 (ρ.upd H.n L) H2 (w.alloc (.map #[] 0)) ∧ Below B0 w (w.alloc (.map #[] 0)) := by
      intro H2 B0 ρ w rr hid hno hb
      obtain ⟨k1, k2⟩ := rr.newMap H.n hid hno hb ⟨w.heap.size, 0, 0, .fix⟩ rfl
      exact ⟨_, .map H.n ⟨w.heap.size, 0, 0, .fix⟩ (Ren.upd_same _ _ _), k1, (Below.refl _ _).alloc rr.low _⟩
    simp only [aop] at h
    split at h
    · injection h with h; injection h with h1 h2; subst h1; subst h2
      refine ⟨_, rfl, fun H2 B0 ρ w cev rr hid hno hb hv => ?_⟩
      obtain ⟨L, g1, g2, g3⟩ := mk H2 B0 ρ w rr hid hno hb
      exact ⟨_, _, L, by simp [execOp, Instr.makeMap], g1, g2, g3⟩
    · rename_i x
      split at h
      · rename_i y k n hT hx
        injection h with h; injection h with h1 h2; subst h1; subst h2
        refine ⟨_, rfl, fun H2 B0 ρ w cev rr hid hno hb hv => ?_⟩
        obtain ⟨L, g1, g2, g3⟩ := mk H2 B0 ρ w rr hid hno hb
        have hcx : cev x = .int k n := by
          have := hv x (by simp [Op.operands])
          rw [hx] at this; exact this.int_inv
        exact ⟨_, _, L, by simp [execOp, Instr.makeMap, run_under (mapT_some hT), hcx, run_asInt], g1, g2, g3⟩
      · cases h
  case makeSlice t l c =>
    simp only [aop] at h
    split at h
    · rename_i elem size bytes k1 len k2 cap hT hl hc
      split at h
      · rename_i z hz
        split at h
        · rename_i hcond
          obtain ⟨c1, c2, c3, c4, c5, c6⟩ := hcond
          injection h with h; injection h with h1 h2; subst h1; subst h2
          obtain ⟨inf, hu, hi, hs, hbts⟩ := elemT_some hT
          simp only at hu hi hs hbts
          refine ⟨_, rfl, makes_cells 0 (.inr trivial) fun ρ w cev hv => ?_⟩
          obtain ⟨z1, z2⟩ := run_zero (w := w) hz
          have hcl : cev l = .int k1 len := by have := hv l (by simp [Op.operands]); rw [hl] at this; exact this.int_inv
          have hcc : cev c = .int k2 cap := by have := hv c (by simp [Op.operands]); rw [hc] at this; exact this.int_inv
          have hself : VRs ρ (repeatL z.cells.toList cap.toNat) (repeatL z.cells.toList cap.toNat) := VRs.refl_flat ρ _ (flat_repeat z2 _)
          refine ⟨⟨repeatL z.cells.toList cap.toNat⟩, elem, .slice (some ⟨w.heap.size, 0, none⟩) len.toNat cap.toNat, ?_, hself, fun ρ' hρ => ?_⟩
          · have w1 : IntKind.i64.wrap len = len := IntWalk.i64_in _ (by omega)
            have w2 : IntKind.i64.wrap cap = cap := IntWalk.i64_in _ (by omega)
            have hnl : (decide (cap < 0) || decide ((inf.bytes : Int) * cap > 2 ^ 48) || decide (len < 0) || decide (len > cap)) = false := by
              rw [← hbts]
              have : (bytes : Int) * cap = cap * bytes := Int.mul_comm _ _
              simp; omega
            subst hs
            have hrange : (Array.range (cap.toNat * inf.size)).map (fun i => z.cells[i % z.cells.size]!) = (⟨repeatL z.cells.toList cap.toNat⟩ : Array Value) := by
              rw [← c5]; exact repeat_range z.cells _ (by omega)
            simp only [execOp, Instr.makeSlice, hcl, hcc, Sem.run_bind, run_under hu, Result.andThen_ok, run_asInt, Sem.run_pure, run_info hi, w1, w2, hnl, Bool.false_eq_true, if_false]
            by_cases h0 : cap.toNat * inf.size = 0
            · have : cap.toNat = 0 := by
                rcases Nat.mul_eq_zero.1 h0 with h' | h'
                · exact h'
                · omega
              have er : ∀ f : Nat → Value, (Array.range 0).map f = (⟨[]⟩ : Array Value) := fun f => by apply Array.toList_inj.1; simp
              simp [run_size hi, this, newRow_run, repeatL, er]
            · simp only [run_size hi, if_neg h0, z1, Sem.run_bind, Result.andThen_ok, Sem.run_pure, run_askRoom, hrange, newRow_run]
          · exact .slice H.n 0 _ _ 0 _ _ hρ (by omega) (Nat.le_refl _) (fun _ => rfl) (fun _ => ⟨rfl, rfl⟩) (fun es he => by cases he)
        · cases h
      · cases h
    · cases h
  case call c =>
    obtain ⟨callee, args, ts⟩ := c
    cases callee with
    | value f => simp at hk
    | invoke r n => simp at hk
    | builtin b => cases b <;> simp at hk
end Go.Abs
