/- Of this session: a machine of its own, proved beside the model, and what the functions of the row come to on it; Lean checks all of it. -/
import Derived.Test.YthjpgccpnakfdaaMachD
set_option linter.unusedVariables false
set_option linter.unusedSimpArgs false
set_option linter.unusedSectionVars false
/- The machine of values: one operation, beside the abstract machine; what is read stays. -/
namespace Go.Abs
open Go Go.RowKit
set_option linter.unusedVariables false
set_option linter.unusedSimpArgs false

section
variable {P : Program} {Φ : Phi} {ρ : Rn} {V : VHeap} {H : Heap}

theorem update_vsim (inv : VInv Φ ρ V H) {t : TypeId} {x k y : DV} {x' k' y' : Value} {V' : VHeap} (hx : DVR Φ ρ x x') (hk : DVR Φ ρ k k') (hy : DVR Φ ρ y y') (e : vupdate P t x k y V = some V') :
    ∃ H', aupdate P t x' k' y' H = some H' ∧ VInv Φ ρ V' H' ∧ Tr Φ ρ V H Φ ρ V' H' := by
  unfold vupdate at e
  split at e
  · rename_i kv id hkv
    obtain ⟨rfl, _⟩ := toV_eq hk hkv
    split at e
    · rename_i es ver hb
      simp only [Option.map_eq_some_iff] at e
      obtain ⟨es', he, rfl⟩ := e
      obtain ⟨i, fs, h1, h2, h3, _⟩ := inv.maps _ _ _ hb
      obtain rfl := dvr_map h1 hx
      have key : ∃ fs', mapUpd P t fs k' y' = some fs' ∧ DMR Φ ρ es' fs' := by
        unfold vmapUpd at he
        unfold mapUpd
        split at he
        · rename_i key elem hm
          simp only [hm]
          rw [findT_keys P key k' (keyL es) fs h3.keys] at he
          split at he
          · rename_i j hf
            simp only [hf]
            split at he
            · rename_i e0 hj
              obtain ⟨v, g1, g2⟩ := h3.get j e0 hj
              simp only [g1]
              split at he
              · rename_i hs
                injection he with he; subst he
                rw [if_pos hs]
                exact ⟨_, rfl, h3.set j k' hy⟩
              · cases he
            · cases he
          · rename_i hf
            injection he with he; subst he
            simp only [hf]
            exact ⟨_, rfl, h3.snoc k' hy⟩
          · cases he
        · cases he
      obtain ⟨fs', g1, g2⟩ := key
      obtain ⟨q1, q2⟩ := inv.writeMap hb h1 g2
      exact ⟨_, by rw [aupdate_map h2, g1]; rfl, q1, q2⟩
    · cases e
  · cases e

theorem evs_map {dev : Operand → DV} {aev : Operand → Value} : ∀ (xs : List Operand), (∀ x ∈ xs, DVR Φ ρ (dev x) (aev x)) → DVRs Φ ρ (xs.map dev) (xs.map aev)
  | [], _ => .nil
  | x :: l, h => .cons _ _ _ _ (h x List.mem_cons_self) (evs_map l fun y hy => h y (List.mem_cons_of_mem _ hy))
theorem evs_opt {dev : Operand → DV} {aev : Operand → Value} (x : Option Operand) (h : ∀ y, x = some y → DVR Φ ρ (dev y) (aev y)) : BndR Φ ρ (x.map dev) (x.map aev) := by
  cases x with
  | none => trivial
  | some y => exact h y rfl

def OpS (P : Program) (Φ : Phi) (ρ : Rn) (V : VHeap) (H : Heap) (aev : Operand → Value) (o : Oper) : VRes → Prop
  | .val x V' => ∃ v H' Φ' ρ', aop P aev o H = some (.val v H') ∧ DVR Φ' ρ' x v ∧ VInv Φ' ρ' V' H' ∧ Tr Φ ρ V H Φ' ρ' V' H'
  | .call f args => ∃ args', aop P aev o H = some (.call f ⟨args'⟩) ∧ DVRs Φ ρ args args'

set_option maxHeartbeats 1000000 in
theorem vop_sim (inv : VInv Φ ρ V H) {dev : Operand → DV} {aev : Operand → Value} {o : Oper} (hev : ∀ x ∈ o.op.operands, DVR Φ ρ (dev x) (aev x)) {r : VRes} (e : vop P dev o V = some r) : OpS P Φ ρ V H aev o r := by
  have keep : ∀ x v, aop P aev o H = some (.val v H) → DVR Φ ρ x v → OpS P Φ ρ V H aev o (.val x V) := fun x v h1 h2 => ⟨v, H, Φ, ρ, h1, h2, inv, Tr.refl _ _ _ _⟩
  obtain ⟨dst, op, type, pos, after, guard⟩ := o
  cases op <;> simp only [vop] at e
  case move x => injection e with e; subst e; exact keep _ _ (by simp only [aop]) (hev x (by simp [Op.operands]))
  case assign x => injection e with e; subst e; exact keep _ _ (by simp only [aop]) (hev x (by simp [Op.operands]))
  case pick c a b =>
    simp only [Option.map_eq_some_iff] at e
    obtain ⟨t, ht, rfl⟩ := e
    have hc := hev c (by simp [Op.operands])
    unfold vboolV at ht
    split at ht
    · rename_i b' hb'
      injection ht with ht; subst ht
      rw [hb'] at hc
      obtain ⟨hc, _⟩ := dvr_v hc
      refine keep _ (if b' then aev a else aev b) (by simp only [aop, hc]) ?_
      cases b' with
      | true => exact hev a (by simp [Op.operands])
      | false => exact hev b (by simp [Op.operands])
    · cases ht
  case alloc t =>
    simp only [Option.map_eq_some_iff] at e
    obtain ⟨z, hz, rfl⟩ := e
    obtain ⟨k1, k2⟩ := inv.push (m := .fix) (dvr_zD (zeroT_flat hz))
    exact ⟨ptr H.n 0, _, _, _, by simp only [aop, hz, Option.map_some], .ptr _ _ _ _ (Rn.upd_same _ _ _), k1, k2⟩
  case box t x =>
    injection e with e; subst e
    obtain ⟨k1, k2⟩ := inv.push (m := .fix) (dvr_cells (hev x (by simp [Op.operands])))
    exact ⟨ptr H.n 0, _, _, _, by simp only [aop], .ptr _ _ _ _ (Rn.upd_same _ _ _), k1, k2⟩
  case load t a =>
    simp only [Option.map_eq_some_iff] at e
    obtain ⟨x, hx, rfl⟩ := e
    obtain ⟨v, h1, h2⟩ := load_vsim inv (hev a (by simp [Op.operands])) hx
    exact keep _ v (by simp only [aop, h1, Option.map_some]) h2
  case store t a x =>
    simp only [Option.map_eq_some_iff] at e
    obtain ⟨V', hx, rfl⟩ := e
    obtain ⟨H', h1, h2, h3⟩ := store_vsim inv (hev a (by simp [Op.operands])) (hev x (by simp [Op.operands])) hx
    exact ⟨undefV, H', _, ρ, by simp only [aop, h1, Option.map_some], dvr_undef, h2, h3⟩
  case build t ps =>
    simp only [Option.map_eq_some_iff] at e
    obtain ⟨c, hc, rfl⟩ := e
    obtain ⟨cs, h1, h2⟩ := build_vsim (Φ := Φ) (ρ := ρ) (qs := (ps.map fun (i, x) => (i, aev x)).toList) hc (by simp [Function.comp_def]) (by
      have := evs_map (Φ := Φ) (ρ := ρ) (dev := dev) (aev := aev) (ps.toList.map (·.2)) (fun x hx => hev x (by simpa [Op.operands] using hx))
      simpa [List.map_map, Function.comp_def] using this)
    exact keep _ (.agg cs.toArray) (by simp only [aop, h1, Option.map_some]) (.agg _ _ h2)
  case buildSlice t len ps =>
    simp only [Option.map_eq_some_iff] at e
    obtain ⟨⟨c, size⟩, hc, rfl⟩ := e
    obtain ⟨cs, h1, h2⟩ := buildS_vsim (Φ := Φ) (ρ := ρ) (qs := (ps.map fun (i, x) => (i, aev x)).toList) hc (by simp [Function.comp_def]) (by
      have := evs_map (Φ := Φ) (ρ := ρ) (dev := dev) (aev := aev) (ps.toList.map (·.2)) (fun x hx => hev x (by simpa [Op.operands] using hx))
      simpa [List.map_map, Function.comp_def] using this)
    obtain ⟨k1, k2⟩ := inv.push (m := .fix) h2
    refine ⟨slc H.n 0 len len, _, _, _, ?_, .slc _ _ _ _ _ _ _ (Rn.upd_same _ _ _) (Nat.le_refl _), k1, k2⟩
    unfold buildS at h1
    simp only [aop]
    cases hT : elemT P t with
    | none => simp only [hT] at h1; cases h1
    | some y =>
      obtain ⟨elem, size, bytes⟩ := y
      simp only [hT] at h1 ⊢
      cases hz : zeroT P elem with
      | none => simp only [hz] at h1; cases h1
      | some z =>
        simp only [hz] at h1 ⊢
        split at h1
        · rename_i e3; rw [if_pos e3, h1]; rfl
        · cases h1
  case nilCheck x =>
    simp only [Option.map_eq_some_iff] at e
    obtain ⟨y, hy, rfl⟩ := e
    have hx := hev x (by simp [Op.operands])
    have : nonNil (aev x) = true ∧ y = dev x := by
      unfold vnonNil at hy
      split at hy <;> (try (cases hy; done)) <;> (rename_i hh; injection hy with hy; subst hy; rw [hh] at hx ⊢; generalize aev x = w at hx ⊢; cases hx <;> exact ⟨rfl, rfl⟩)
    obtain ⟨h1, rfl⟩ := this
    exact keep _ _ (by simp only [aop]; rw [if_pos h1]) hx
  case binOp op t x y yt =>
    simp only [Option.map_eq_some_iff] at e
    obtain ⟨z, hz, rfl⟩ := e
    obtain ⟨v, h1, h2⟩ := bin_vsim (hev x (by simp [Op.operands])) (hev y (by simp [Op.operands])) hz
    exact keep _ v (by simp only [aop, h1, Option.map_some]) h2
  case unOp op t x =>
    simp only [Option.map_eq_some_iff] at e
    obtain ⟨z, hz, rfl⟩ := e
    obtain ⟨v, h1, h2⟩ := un_vsim (hev x (by simp [Op.operands])) hz
    unfold unV at h1
    split at h1
    · rename_i hf
      exact keep _ v (by simp only [aop]; rw [if_pos hf, h1]; rfl) h2
    · cases h1
  case convert s d x =>
    simp only [Option.map_eq_some_iff] at e
    obtain ⟨z, hz, rfl⟩ := e
    obtain ⟨v, h1, h2⟩ := convert_vsim inv (hev x (by simp [Op.operands])) hz
    exact keep _ v (by simp only [aop, h1, Option.map_some]) h2
  case makeInterface t x =>
    simp only [Option.map_eq_some_iff] at e
    obtain ⟨z, hz, rfl⟩ := e
    unfold vifaceOf at hz
    split at hz
    · rename_i hn
      injection hz with hz; subst hz
      exact keep _ (.iface t (aev x)) (by simp only [aop]; rw [if_pos hn]) (.iface _ _ _ (hev x (by simp [Op.operands])))
    · cases hz
  case makeFunc fn first captured =>
    cases fn <;> simp only at e <;> try (cases e; done)
    injection e with e; subst e
    rename_i f
    refine keep _ (.func (.func f) (first.map aev) (captured.map aev)) (by simp only [aop]) ?_
    have h1 := evs_map (Φ := Φ) (ρ := ρ) (dev := dev) (aev := aev) first.toList (fun x hx => hev x (by simp [Op.operands]; left; simpa using hx))
    have h2 := evs_map (Φ := Φ) (ρ := ρ) (dev := dev) (aev := aev) captured.toList (fun x hx => hev x (by simp [Op.operands]; right; simpa using hx))
    have e1 : first.map aev = ⟨first.toList.map aev⟩ := by apply Array.toList_inj.1; simp
    have e2 : captured.map aev = ⟨captured.toList.map aev⟩ := by apply Array.toList_inj.1; simp
    rw [e1, e2]
    exact .func _ _ _ _ _ h1 h2
  case makeMap t r =>
    simp only [Option.map_eq_some_iff] at e
    obtain ⟨u, hu, rfl⟩ := e
    obtain ⟨k1, k2⟩ := inv.pushMap
    refine ⟨.map (some H.n), _, _, _, ?_, .map _ _ (Rn.upd_same _ _ _), k1, k2⟩
    simp only [aop]
    cases r with
    | none => rfl
    | some x =>
      have hx := hev x (by simp [Op.operands])
      simp only [Option.map_some, vmapOk] at hu
      split at hu
      · rename_i n hn
        obtain ⟨h1, _⟩ := toV_eq hx hn
        simp only [Option.map_eq_some_iff] at hu
        obtain ⟨m, hm, _⟩ := hu
        simp only [h1, hm]
      · cases hu
  case makeSlice t l c =>
    simp only [Option.map_eq_some_iff] at e
    obtain ⟨s, hs, rfl⟩ := e
    obtain ⟨cs, h1, h2, h3⟩ := makeS_vsim (hev l (by simp [Op.operands])) (hev c (by simp [Op.operands])) hs
    obtain ⟨k1, k2⟩ := inv.push (m := .fix) h2
    refine ⟨slc H.n 0 s.2.1 s.2.2.1, _, _, _, ?_, .slc _ _ _ _ _ _ _ (Rn.upd_same _ _ _) h3, k1, k2⟩
    unfold makeS at h1
    simp only [aop]
    split at h1
    · rename_i e1 e2 e3
      simp only [e1, e2, e3]
      split at h1
      · rename_i e4
        simp only [e4]
        split at h1
        · rename_i e5
          injection h1 with h1; injection h1 with q1 q2; injection q2 with q2 q3
          rw [if_pos e5, ← q1, ← q2, ← q3]
        · cases h1
      · cases h1
    · cases h1
  case slice t x lo hi mx =>
    simp only [Option.map_eq_some_iff] at e
    obtain ⟨z, hz, rfl⟩ := e
    obtain ⟨v, h1, h2⟩ := slice_vsim inv (hev x (by simp [Op.operands])) (evs_opt lo fun y hy => hev y (by simp [Op.operands, hy])) (evs_opt hi fun y hy => hev y (by simp [Op.operands, hy])) (evs_opt mx fun y hy => hev y (by simp [Op.operands, hy])) hz
    exact keep _ v (by simp only [aop, h1, Option.map_some]) h2
  case fieldAddr s x f =>
    simp only [Option.map_eq_some_iff] at e
    obtain ⟨z, hz, rfl⟩ := e
    obtain ⟨v, h1, h2⟩ := fieldAddr_vsim (hev x (by simp [Op.operands])) hz
    exact keep _ v (by simp only [aop, h1, Option.map_some]) h2
  case field t x f =>
    simp only [Option.map_eq_some_iff] at e
    obtain ⟨z, hz, rfl⟩ := e
    obtain ⟨v, h1, h2⟩ := field_vsim (hev x (by simp [Op.operands])) hz
    exact keep _ v (by simp only [aop, h1, Option.map_some]) h2
  case indexAddr t x ix =>
    simp only [Option.map_eq_some_iff] at e
    obtain ⟨z, hz, rfl⟩ := e
    obtain ⟨v, h1, h2⟩ := indexAddr_vsim (hev x (by simp [Op.operands])) (hev ix (by simp [Op.operands])) hz
    exact keep _ v (by simp only [aop, h1, Option.map_some]) h2
  case index t x ix =>
    simp only [Option.map_eq_some_iff] at e
    obtain ⟨z, hz, rfl⟩ := e
    obtain ⟨v, h1, h2⟩ := index_vsim (hev x (by simp [Op.operands])) (hev ix (by simp [Op.operands])) hz
    exact keep _ v (by simp only [aop, h1, Option.map_some]) h2
  case extract x ix =>
    simp only [Option.bind_eq_some_iff, Option.map_eq_some_iff] at e
    obtain ⟨vs, hvs, z, hz, rfl⟩ := e
    have hx := hev x (by simp [Op.operands])
    unfold vtupleV at hvs
    split at hvs
    · rename_i l hl
      injection hvs with hvs; subst hvs
      rw [hl] at hx
      generalize hax : aev x = w at hx
      cases hx with
      | tuple _ l' hl' =>
        obtain ⟨v, h1, h2⟩ := hl'.get ix z hz
        exact keep _ v (by simp only [aop, hax]; simp [h1]) h2
    · cases hvs
  case lookup t x k ok =>
    simp only [Option.map_eq_some_iff] at e
    obtain ⟨z, hz, rfl⟩ := e
    obtain ⟨v, h1, h2⟩ := lookup_vsim inv (hev x (by simp [Op.operands])) (hev k (by simp [Op.operands])) hz
    exact keep _ v (by simp only [aop, h1, Option.map_some]) h2
  case mapUpdate t m k x =>
    simp only [Option.map_eq_some_iff] at e
    obtain ⟨V', hz, rfl⟩ := e
    obtain ⟨H', h1, h2, h3⟩ := update_vsim inv (hev m (by simp [Op.operands])) (hev k (by simp [Op.operands])) (hev x (by simp [Op.operands])) hz
    exact ⟨undefV, H', _, ρ, by simp only [aop, h1, Option.map_some], dvr_undef, h2, h3⟩
  case insert t m k x =>
    simp only [Option.map_eq_some_iff] at e
    obtain ⟨V', hz, rfl⟩ := e
    obtain ⟨H', h1, h2, h3⟩ := update_vsim inv (hev m (by simp [Op.operands])) (hev k (by simp [Op.operands])) (hev x (by simp [Op.operands])) hz
    exact ⟨undefV, H', _, ρ, by simp only [aop, h1, Option.map_some], dvr_undef, h2, h3⟩
  case call c =>
    obtain ⟨callee, args, ts⟩ := c
    have harr : args.map aev = ⟨args.toList.map aev⟩ := by apply Array.toList_inj.1; simp
    cases callee with
    | value f =>
      simp only [Option.map_eq_some_iff] at e
      obtain ⟨⟨g, a, b⟩, hg, rfl⟩ := e
      have hf := hev f (by simp [Op.operands, Call.operands])
      have ha := evs_map (Φ := Φ) (ρ := ρ) (dev := dev) (aev := aev) args.toList (fun x hx => hev x (by simp [Op.operands, Call.operands]; right; simpa using hx))
      unfold vfuncV at hg
      split at hg
      · rename_i f' a' c' hfv
        injection hg with hg; injection hg with q1 q2; injection q2 with q2 q3; subst q1; subst q2; subst q3
        rw [hfv] at hf
        generalize hax : aev f = w at hf
        cases hf with
        | func _ _ _ u v h1 h2 =>
          refine ⟨(u ++ args.toList.map aev) ++ v, ?_, (h1.append ha).append h2⟩
          simp only [aop, hax, harr]
          simp
      · cases hg
    | invoke r name =>
      simp only [Option.bind_eq_some_iff, Option.map_eq_some_iff] at e
      obtain ⟨⟨t, y⟩, hg, f, hm, rfl⟩ := e
      have hr := hev r (by simp [Op.operands, Call.operands])
      have ha := evs_map (Φ := Φ) (ρ := ρ) (dev := dev) (aev := aev) args.toList (fun x hx => hev x (by simp [Op.operands, Call.operands]; right; simpa using hx))
      unfold vifaceV at hg
      split at hg
      · rename_i t' x' hfv
        injection hg with hg; injection hg with q1 q2; subst q1; subst q2
        rw [hfv] at hr
        generalize hax : aev r = w at hr
        cases hr with
        | iface _ _ u h1 =>
          refine ⟨u :: args.toList.map aev, ?_, .cons _ _ _ _ h1 ha⟩
          simp only [aop, hax, hm, harr, Option.map_some]
          simp
      · cases hg
    | builtin b =>
      have ha := evs_map (Φ := Φ) (ρ := ρ) (dev := dev) (aev := aev) args.toList (fun x hx => hev x (by simp [Op.operands, Call.operands]; simpa using hx))
      cases b <;> simp only at e <;> try (cases e; done)
      case len =>
        simp only [Option.map_eq_some_iff] at e
        obtain ⟨z, hz, rfl⟩ := e
        unfold vlen1 at hz
        split at hz
        · rename_i x t hx ht
          rw [hx] at ha
          generalize hal : args.toList.map aev = l at ha
          cases ha with
          | cons _ x' _ _ h1 h2 =>
            cases h2
            obtain ⟨v, k1, k2⟩ := vlen_vsim (P := P) inv h1 hz
            exact keep _ v (by simp only [aop, harr, hal, ht, k1, Option.map_some]) k2
        · cases hz
      case min =>
        simp only [Option.map_eq_some_iff] at e
        obtain ⟨z, hz, rfl⟩ := e
        obtain ⟨v, h1, h2⟩ := min_vsim ha hz
        refine keep _ v ?_ h2
        unfold minV at h1
        simp only [aop, harr]
        split at h1
        · rename_i hc; rw [if_pos hc, h1]; rfl
        · cases h1
      case max =>
        simp only [Option.map_eq_some_iff] at e
        obtain ⟨z, hz, rfl⟩ := e
        obtain ⟨v, h1, h2⟩ := max_vsim ha hz
        refine keep _ v ?_ h2
        unfold maxV at h1
        simp only [aop, harr]
        split at h1
        · rename_i hc; rw [if_pos hc, h1]; rfl
        · cases h1
      case append =>
        simp only [Option.map_eq_some_iff] at e
        obtain ⟨⟨x, V'⟩, hz, rfl⟩ := e
        obtain ⟨v, H', Φ', ρ', h1, h2, h3, h4⟩ := append_vsim inv ha hz
        exact ⟨v, H', Φ', ρ', by simp only [aop, harr, h1, Option.map_some], h2, h3, h4⟩
      case copy =>
        simp only [Option.map_eq_some_iff] at e
        obtain ⟨⟨x, V'⟩, hz, rfl⟩ := e
        obtain ⟨v, H', h1, h2, h3, h4⟩ := copy_vsim inv ha hz
        exact ⟨v, H', _, ρ, by simp only [aop, harr, h1, Option.map_some], h2, h3, h4⟩
  all_goals (cases e)
end
end Go.Abs
/- The machine of values: what was read stays as it was read. -/
namespace Go.Abs
open Go Go.RowKit
set_option linter.unusedVariables false
set_option linter.unusedSimpArgs false

def blkV : Value → Option Nat
  | .pointer (some ⟨i, _, none⟩) => some i
  | .slice (some ⟨i, _, none⟩) _ _ => some i
  | .map (some i) => some i
  | _ => none
section
variable {P : Program}
theorem aload_same {t : TypeId} {a : Value} {H H' : Heap} (h : ∀ i, blkV a = some i → H'.get i = H.get i) : aload P t a H' = aload P t a H := by
  unfold aload
  split
  · rw [h _ rfl]
  · rfl
theorem aslice_same {t : TypeId} {a : Value} {lo hi mx : Option Value} {H H' : Heap} (h : ∀ i, blkV a = some i → H'.get i = H.get i) : aslice P t a lo hi mx H' = aslice P t a lo hi mx H := by
  unfold aslice
  split
  · rw [h _ rfl]
  · rw [h _ rfl]
  · rfl
  · rfl
  · rfl
theorem alookup_same {t : TypeId} {a k : Value} {ok : Bool} {H H' : Heap} (h : ∀ i, blkV a = some i → H'.get i = H.get i) : alookup P t a k ok H' = alookup P t a k ok H := by
  unfold alookup
  split
  · rfl
  · rw [h _ rfl]
  · rfl
theorem alen_same {t : TypeId} {a : Value} {H H' : Heap} (h : ∀ i, blkV a = some i → H'.get i = H.get i) : alen P t a H' = alen P t a H := by
  unfold alen
  split <;> first
    | rfl
    | rw [h _ rfl]
theorem aconvert_same {s d : TypeId} {a : Value} {H H' : Heap} (h : ∀ i, blkV a = some i → H'.get i = H.get i) : aconvert P s d a H' = aconvert P s d a H := by
  unfold aconvert
  split
  · unfold cellsAt; rw [h _ rfl]
  · rfl
  · rfl
end

/-- A value whose block is at its present row. -/
def curD (ρ : Rn) : DV → Prop
  | .ptr id g _ => ∃ i, ρ id = some (g, i)
  | .slc id g _ _ _ _ => ∃ i, ρ id = some (g, i)
  | .map id => ∃ i, ρ id = some (0, i)
  | _ => True
section
variable {P : Program} {Φ Φ' : Phi} {ρ ρ' : Rn} {V V' : VHeap} {H H' : Heap}
theorem ver_same (inv : VInv Φ ρ V H) (tr : Tr Φ ρ V H Φ' ρ' V' H') {id g i : Nat} (hi : ρ id = some (g, i)) (h : verOf V' id = verOf V id) : H'.get i = H.get i := by
  have hl := (inv.dom _ _ _ hi).1
  have hv : verOf V id = some (V[id]).ver := by unfold verOf; rw [List.getElem?_eq_getElem hl]; rfl
  obtain ⟨v', h1, h2, h3⟩ := tr.ver id _ hv
  rw [h1, hv] at h
  injection h with h
  exact (h3 h g i hi).2
theorem dvr_stable (inv : VInv Φ ρ V H) (inv' : VInv Φ' ρ' V' H') (tr : Tr Φ ρ V H Φ' ρ' V' H') {x : DV} {a : Value} (h : DVR Φ ρ x a) (cur : curD ρ x) (dep : depOk (depV V x) V' = true) : ∀ i, blkV a = some i → H'.get i = H.get i := by
  intro i hi
  have hphi : ∀ j b, Φ j = some b → H'.get j = H.get j := fun j b e => by rw [inv'.phi _ _ (tr.phi _ _ e), inv.phi _ _ e]
  cases h with
  | d x v hd =>
    cases hd with
    | v y hf => unfold blkV at hi; split at hi <;> first | (simp [Abs.flat] at hf; done) | cases hi
    | nil => simp [blkV] at hi
    | cut => simp [blkV, cutV] at hi
    | rows _ j _ _ _ _ _ h1 => simp [blkV] at hi; subst hi; exact hphi _ _ h1
  | fptr _ _ j _ _ _ h1 => simp [blkV] at hi; subst hi; exact hphi _ _ h1
  | ptr id g off j h1 =>
    simp [blkV] at hi; subst hi
    exact ver_same inv tr h1 (by simpa [depOk, depV] using dep)
  | ptrOld id g off g' j k o h1 h2 => obtain ⟨i, hc⟩ := cur; rw [h1] at hc; injection hc with hc; injection hc with hc; omega
  | slc id g off n cap sz j h1 h2 =>
    simp [blkV] at hi; subst hi
    exact ver_same inv tr h1 (by simpa [depOk, depV] using dep)
  | slcOld id g off n cap sz g' j k o h1 h2 => obtain ⟨i, hc⟩ := cur; rw [h1] at hc; injection hc with hc; injection hc with hc; omega
  | map id j h1 =>
    simp [blkV] at hi; subst hi
    exact ver_same inv tr h1 (by simpa [depOk, depV] using dep)
  | mapOld id g j k h1 h2 => obtain ⟨i, hc⟩ := cur; rw [h1] at hc; injection hc with hc; injection hc with hc; omega
  | fmap es j es' h1 h2 => simp [blkV] at hi; subst hi; exact hphi _ _ h1
  | func => simp [blkV] at hi
  | iface => simp [blkV] at hi
  | agg => simp [blkV] at hi
  | tuple => simp [blkV] at hi
theorem cellsOf_cur (inv : VInv Φ ρ V H) {id g : Nat} {c : List DV} (e : cellsOf V id g = some c) : ∃ i, ρ id = some (g, i) := by
  obtain ⟨i, cs, m, lk, ver, h1, h2, _⟩ := cellsOf_some inv e
  exact ⟨i, h2⟩

theorem read_stable (inv : VInv Φ ρ V H) {dev : Operand → DV} {aev : Operand → Value} {o : Oper} (hev : ∀ x ∈ o.op.operands, DVR Φ ρ (dev x) (aev x)) (hk : kindOf o.op = .read) {x : DV} {V1 : VHeap} (e : vop P dev o V = some (.val x V1))
    {v : Value} {H1 : Heap} (ha : aop P aev o H = some (.val v H1)) (tr : Tr Φ ρ V H Φ' ρ' V' H') (inv' : VInv Φ' ρ' V' H') (dep : depOk (vdep dev o V) V' = true) : valOf (aop P aev o H') = some v := by
  obtain ⟨dst, op, type, pos, after, guard⟩ := o
  cases op <;> simp only [kindOf] at hk <;> try (cases hk; done)
  case load t a =>
    simp only [vop, Option.map_eq_some_iff] at e
    obtain ⟨y, hy, _⟩ := e
    have hx := hev a (by simp [Op.operands])
    have cur : curD ρ (dev a) := by
      unfold vload at hy
      split at hy
      · rename_i id g off hd
        rw [hd]
        simp only [Option.bind_eq_some_iff] at hy
        obtain ⟨c, hc, _⟩ := hy
        exact cellsOf_cur inv hc
      · rename_i hd; rw [hd]; trivial
      · cases hy
    simp only [aop] at ha ⊢
    rw [aload_same (dvr_stable inv inv' tr hx cur dep)]
    simp only [Option.map_eq_some_iff] at ha
    obtain ⟨w, hw, ha⟩ := ha
    injection ha with h1 h2; subst h1
    simp [hw, valOf]
  case convert s d a =>
    simp only [vop, Option.map_eq_some_iff] at e
    obtain ⟨y, hy, _⟩ := e
    have hx := hev a (by simp [Op.operands])
    have same : aconvert P s d (aev a) H' = aconvert P s d (aev a) H := by
      have hb : curD ρ (dev a) → aconvert P s d (aev a) H' = aconvert P s d (aev a) H := fun cur => aconvert_same (dvr_stable inv inv' tr hx cur dep)
      cases hd : dev a with
      | slc id g off n cap sz =>
        by_cases h0 : n = 0
        · subst h0
          rw [hd] at hx
          generalize aev a = w at hx
          cases hx <;> (unfold aconvert; simp)
        · refine hb ?_
          rw [hd] at hy ⊢
          unfold vconvert at hy
          simp only [toV] at hy
          split at hy
          · split at hy
            · rename_i m h3 h4
              simp only [lenD, Option.some.injEq] at h4; subst h4
              simp only [firstD, if_neg h0, Option.bind_eq_some_iff] at hy
              obtain ⟨c, ⟨c', hc, _⟩, _⟩ := hy
              exact cellsOf_cur inv hc
            · cases hy
          · cases hy
      | ptr id g off => rw [hd] at hy; unfold vconvert at hy; simp only [toV, lenD] at hy; split at hy <;> (try split at hy) <;> simp at hy <;> (rename_i h3; cases h3)
      | map id => rw [hd] at hy; unfold vconvert at hy; simp only [toV, lenD] at hy; split at hy <;> (try split at hy) <;> simp at hy <;> (rename_i h3; cases h3)
      | _ => exact hb (by rw [hd]; trivial)
    simp only [aop] at ha ⊢
    rw [same]
    simp only [Option.map_eq_some_iff] at ha
    obtain ⟨w, hw, ha⟩ := ha
    injection ha with h1 h2; subst h1
    simp [hw, valOf]
  case slice t a lo hi mx =>
    simp only [vop, Option.map_eq_some_iff] at e
    obtain ⟨y, hy, _⟩ := e
    have hx := hev a (by simp [Op.operands])
    have cur : curD ρ (dev a) := by
      unfold vslice at hy
      split at hy
      · split at hy
        · rename_i id g off hd
          rw [hd]
          split at hy
          · rename_i c lk g' ver n el size hb hA
            split at hy
            · rename_i hg; subst hg
              obtain ⟨i, cs, h1, _⟩ := inv.cells _ _ _ _ _ _ hb
              exact ⟨i, h1⟩
            · cases hy
          · cases hy
        · rename_i id g off len cap sz hd
          rw [hd]
          split at hy
          · rename_i c m lk g' ver el size by_ hb hA
            split at hy
            · rename_i hg; subst hg
              obtain ⟨i, cs, h1, _⟩ := inv.cells _ _ _ _ _ _ hb
              exact ⟨i, h1⟩
            · cases hy
          · cases hy
        · rename_i hd; rw [hd]; trivial
        · rename_i hd; rw [hd]; trivial
        · cases hy
      · cases hy
    simp only [aop] at ha ⊢
    rw [aslice_same (dvr_stable inv inv' tr hx cur dep)]
    simp only [Option.map_eq_some_iff] at ha
    obtain ⟨w, hw, ha⟩ := ha
    injection ha with h1 h2; subst h1
    simp [hw, valOf]
  case lookup t a k ok =>
    simp only [vop, Option.map_eq_some_iff] at e
    obtain ⟨y, hy, _⟩ := e
    have hx := hev a (by simp [Op.operands])
    have cur : curD ρ (dev a) := by
      unfold vlookup at hy
      split at hy
      · split at hy
        · rename_i hd; rw [hd]; trivial
        · rename_i hd; rw [hd]; trivial
        · rename_i id hd
          rw [hd]
          split at hy
          · rename_i es ver hb
            obtain ⟨i, fs, h1, _⟩ := inv.maps _ _ _ hb
            exact ⟨i, h1⟩
          · cases hy
        · cases hy
      · cases hy
    simp only [aop] at ha ⊢
    rw [alookup_same (dvr_stable inv inv' tr hx cur dep)]
    simp only [Option.map_eq_some_iff] at ha
    obtain ⟨w, hw, ha⟩ := ha
    injection ha with h1 h2; subst h1
    simp [hw, valOf]
  case call c =>
    obtain ⟨callee, args, ts⟩ := c
    cases callee with
    | value f => simp [kindOf] at hk
    | invoke r n => simp [kindOf] at hk
    | builtin b =>
      cases b <;> simp [kindOf] at hk
      simp only [vop, Option.map_eq_some_iff] at e
      obtain ⟨y, hy, _⟩ := e
      have hargs := evs_map (Φ := Φ) (ρ := ρ) (dev := dev) (aev := aev) args.toList (fun x hx => hev x (by simp [Op.operands, Call.operands]; simpa using hx))
      unfold vlen1 at hy
      split at hy
      · rename_i x0 t0 hx0 ht0
        obtain ⟨a, ha0⟩ : ∃ a, args.toList = [a] := by
          cases hl : args.toList with
          | nil => rw [hl] at hx0; simp at hx0
          | cons a l => rw [hl] at hx0; simp at hx0; exact ⟨a, by rw [hx0.2]⟩
        have hxa : dev a = x0 := by rw [ha0] at hx0; simpa using hx0
        have hx : DVR Φ ρ (dev a) (aev a) := by
          rw [ha0] at hargs; cases hargs with
          | cons _ _ _ _ h1 _ => exact h1
        have dep' : depOk (depV V (dev a)) V' = true := by
          simp only [vdep, ha0] at dep; exact dep
        have same : alen P t0 (aev a) H' = alen P t0 (aev a) H := by
          have hb : curD ρ (dev a) → alen P t0 (aev a) H' = alen P t0 (aev a) H := fun cur => alen_same (dvr_stable inv inv' tr hx cur dep')
          cases hd : dev a with
          | slc id g off n cap sz =>
            rw [hd] at hx
            generalize aev a = w at hx
            cases hx <;> (unfold alen; rfl)
          | ptr id g off =>
            rw [hd] at hx
            generalize aev a = w at hx
            cases hx <;> (unfold alen; rfl)
          | map id =>
            refine hb ?_
            rw [← hxa, hd] at hy
            rw [hd]
            simp only [vlen] at hy
            split at hy
            · rename_i es ver y hb hm
              obtain ⟨i, fs, h1, _⟩ := inv.maps _ _ _ hb
              exact ⟨i, h1⟩
            · cases hy
          | _ => exact hb (by rw [hd]; trivial)
        have harr : args.map aev = #[aev a] := by apply Array.toList_inj.1; simp [ha0]
        simp only [aop, harr, ht0] at ha ⊢
        simp only [same]
        simp only [Option.map_eq_some_iff] at ha
        obtain ⟨w, hw, ha⟩ := ha
        injection ha with h1 h2; subst h1
        simp [hw, valOf]
      · cases hy
end
end Go.Abs
/- The machine of values: what a call leaves, beside the abstract machine. -/
namespace Go.Abs
open Go Go.RowKit
set_option linter.unusedVariables false
set_option linter.unusedSimpArgs false

theorem ownOf_spec {lo : Nat} : ∀ {vs : List DV} {j id g off n cap sz : Nat}, ownOf lo vs = some (j, id, g, off, n, cap, sz) → vs[j]? = some (.slc id g off n cap sz) ∧ lo ≤ id
  | [], _, _, _, _, _, _, _, h => by simp [ownOf] at h
  | x :: l, j, id, g, off, n, cap, sz, h => by
    have tail : (ownOf lo l).map (fun e => (e.1 + 1, e.2)) = some (j, id, g, off, n, cap, sz) → (x :: l)[j]? = some (.slc id g off n cap sz) ∧ lo ≤ id := by
      intro h
      simp only [Option.map_eq_some_iff] at h
      obtain ⟨⟨j', e⟩, he, h⟩ := h
      injection h with h1 h2
      subst h1; subst h2
      obtain ⟨h3, h4⟩ := ownOf_spec he
      exact ⟨by simpa using h3, h4⟩
    cases x <;> simp only [ownOf] at h <;> try (exact tail h)
    split at h
    · rename_i hl
      simp only [Option.some.injEq, Prod.mk.injEq] at h
      obtain ⟨rfl, rfl, rfl, rfl, rfl, rfl, rfl⟩ := h
      exact ⟨rfl, hl⟩
    · exact tail h

theorem leaveH_spec (f : DV → Option DV) : ∀ {V0 V1 Vr : VHeap}, leaveH f V0 V1 = some Vr → Vr.length = V0.length ∧ V0.length ≤ V1.length ∧ ∀ (id : Nat) (b : VBlk), Vr[id]? = some b → ∃ b0 b1, V0[id]? = some b0 ∧ V1[id]? = some b1 ∧ leaveB f b0 b1 = some b
  | [], V1, Vr, h => by simp [leaveH] at h; subst h; simp
  | b0 :: r0, [], Vr, h => by simp [leaveH] at h
  | b0 :: r0, b1 :: r1, Vr, h => by
    simp only [leaveH] at h
    split at h
    · rename_i b r hb hr
      injection h with h; subst h
      obtain ⟨h1, h2, h3⟩ := leaveH_spec f hr
      refine ⟨by simp [h1], by simp; omega, fun id x hx => ?_⟩
      cases id with
      | zero => simp at hx; subst hx; exact ⟨b0, b1, rfl, rfl, hb⟩
      | succ id => simpa using h3 id x (by simpa using hx)
    · cases h
theorem leaveB_ver {f : DV → Option DV} {b0 b1 b : VBlk} (h : leaveB f b0 b1 = some b) : b.ver = b1.ver := by
  unfold leaveB at h
  split at h
  · split at h
    · rename_i e; injection h with h; subst h; exact e
    · simp only [Option.map_eq_some_iff] at h; obtain ⟨c, _, rfl⟩ := h; rfl
  · split at h
    · rename_i e; injection h with h; subst h; exact e
    · simp only [Option.map_eq_some_iff] at h; obtain ⟨c, _, rfl⟩ := h; rfl
  · cases h
theorem seenH_mem {s : DV → List Nat} : ∀ {V0 V1 : VHeap} {id : Nat} {b0 b1 : VBlk}, V0[id]? = some b0 → V1[id]? = some b1 → ∀ j ∈ seenB s b0 b1, j ∈ seenH s V0 V1
  | [], _, id, b0, b1, h, _, _, _ => by simp at h
  | _ :: _, [], id, b0, b1, _, h, _, _ => by simp at h
  | x :: l, y :: m, 0, b0, b1, h1, h2, j, hj => by
    simp at h1 h2; subst h1; subst h2
    simp [seenH, hj]
  | x :: l, y :: m, id + 1, b0, b1, h1, h2, j, hj => by
    have := seenH_mem (V0 := l) (V1 := m) (id := id) (by simpa using h1) (by simpa using h2) j hj
    simp [seenH, this]

section
variable {P : Program}
open Classical in
/-- What is frozen behind a call: all of its own blocks, but those that are handed on. -/
noncomputable def frozen (Φ : Phi) (ρ : Rn) (H : Heap) (lo : Nat) (but : Nat → Prop) : Phi := fun i =>
  match Φ i with
  | some b => some b
  | none => if ∃ id g, lo ≤ id ∧ ¬ but id ∧ ρ id = some (g, i) then H.get i else none
theorem frozen_le {Φ : Phi} {ρ : Rn} {H : Heap} {lo : Nat} {but : Nat → Prop} : PLe Φ (frozen Φ ρ H lo but) := fun i b h => by unfold frozen; simp only [h]
theorem frozen_own {Φ : Phi} {ρ : Rn} {V : VHeap} {H : Heap} {lo : Nat} {but : Nat → Prop} (inv : VInv Φ ρ V H) {id g i : Nat} (h1 : lo ≤ id) (h2 : ¬ but id) (h3 : ρ id = some (g, i)) : frozen Φ ρ H lo but i = H.get i := by
  unfold frozen
  cases e : Φ i with
  | some b => simp only; exact (inv.phi _ _ e).symm
  | none => simp only; rw [if_pos ⟨id, g, h1, h2, h3⟩]
theorem frozen_old {Φ : Phi} {ρ : Rn} {V : VHeap} {H : Heap} {lo : Nat} {but : Nat → Prop} (inv : VInv Φ ρ V H) {id g i : Nat} (h1 : id < lo ∨ but id) (h3 : ρ id = some (g, i)) (e : Φ i = none) : frozen Φ ρ H lo but i = none := by
  unfold frozen
  rw [e]
  simp only
  rw [if_neg]
  rintro ⟨id', g', h4, h5, h6⟩
  have := inv.inj _ _ _ _ _ h3 h6
  subst this
  rcases h1 with h1 | h1
  · omega
  · exact h5 h1
theorem frozen_phi {Φ : Phi} {ρ : Rn} {V : VHeap} {H : Heap} {lo : Nat} {but : Nat → Prop} (inv : VInv Φ ρ V H) {i : Nat} {b : Blk} (h : frozen Φ ρ H lo but i = some b) : H.get i = some b := by
  unfold frozen at h
  cases e : Φ i with
  | some b' => simp only [e] at h; rw [inv.phi _ _ e]; exact h
  | none =>
    simp only [e] at h
    split at h
    · exact h
    · cases h

theorem leave_sim {Φ0 Φ1 : Phi} {ρ0 ρ1 : Rn} {V0 V1 V' : VHeap} {H0 H1 : Heap} (inv0 : VInv Φ0 ρ0 V0 H0) (inv1 : VInv Φ1 ρ1 V1 H1) (tr : Tr Φ0 ρ0 V0 H0 Φ1 ρ1 V1 H1) {mv : Bool} {vs vs' : List DV} {ws : List Value} (hv : DVRs Φ1 ρ1 vs ws) (e : leaveD V0 mv vs V1 = some (vs', V')) :
    ∃ Φ' ρ', VInv Φ' ρ' V' H1 ∧ Tr Φ0 ρ0 V0 H0 Φ' ρ' V' H1 ∧ DVRs Φ' ρ' vs' ws := by
  unfold leaveD at e
  split at e
  · cases e
  rename_i Vr hVr
  obtain ⟨hlen, hlen1, hblk⟩ := leaveH_spec _ hVr
  -- a state for what is handed on
  have core : ∀ (but : Nat → Prop) (ρ' : Rn), (∀ id, id < V0.length → ρ' id = ρ1 id) → (∀ id g i, V0.length < id → ρ' id = some (g, i) → False) → (∀ id ∈ seenH (seen V1 V0.length true fzN) V0 V1, ¬ but id) → (∀ id, but id → V0.length ≤ id ∧ ∀ es ver, V1[id]? ≠ some (.map es ver)) →
      (∀ g i, ρ' V0.length = some (g, i) → ∃ id g', V0.length ≤ id ∧ ρ1 id = some (g', i)) →
      (∀ (l : List DV) (m : List Value) (r : List DV), (∀ id ∈ l.flatMap (seen V1 V0.length true fzN), ¬ but id) → DVRs Φ1 ρ1 l m → mapO (fz V1 V0.length true fzN) l = some r → DVRs (frozen Φ1 ρ1 H1 V0.length but) ρ' r m) ∧
      (∀ id g i, ρ' id = some (g, i) → id ≤ V0.length ∧ i < H1.n) ∧
      (∀ id id' g g' i, ρ' id = some (g, i) → ρ' id' = some (g', i) → id = id') ∧
      (∀ id c m lk g ver, Vr[id]? = some (.cells c m lk g ver) → ∃ i cs, ρ' id = some (g, i) ∧ H1.get i = some (.cells cs m) ∧ DVRs (frozen Φ1 ρ1 H1 V0.length but) ρ' c cs ∧ (lk = true → frozen Φ1 ρ1 H1 V0.length but i = some (.cells cs m)) ∧ (lk = false → frozen Φ1 ρ1 H1 V0.length but i = none)) ∧
      (∀ id es ver, Vr[id]? = some (.map es ver) → ∃ i fs, ρ' id = some (0, i) ∧ H1.get i = some (.map fs) ∧ DMR (frozen Φ1 ρ1 H1 V0.length but) ρ' es fs ∧ frozen Φ1 ρ1 H1 V0.length but i = none) ∧
      PLe Φ0 (frozen Φ1 ρ1 H1 V0.length but) ∧ RLe ρ0 ρ' ∧
      (∀ id v, verOf V0 id = some v → ∃ v', verOf Vr id = some v' ∧ v ≤ v' ∧ (v' = v → ∀ g i, ρ0 id = some (g, i) → ρ' id = some (g, i) ∧ H1.get i = H0.get i)) := by
    intro but ρ' hold hnone hseen hbut hnew
    have hle : PLe Φ1 (frozen Φ1 ρ1 H1 V0.length but) := frozen_le
    have hrho : RLe ρ0 ρ' := by
      intro id g i h
      obtain ⟨g', i', h1, h2⟩ := tr.rho id g i h
      exact ⟨g', i', by rw [hold id (inv0.dom _ _ _ h).1]; exact h1, h2⟩
    have hcov : ∀ ids : List Nat, (∀ id ∈ ids, ¬ but id ∧ V0.length ≤ id) → Covers (frozen Φ1 ρ1 H1 V0.length but) ρ1 V1 H1 ids := fun ids hids id hid g i hi _ => frozen_own inv1 (hids id hid).2 (hids id hid).1 hi
    have seen_ge : ∀ (k : Nat) (x : DV), ∀ id ∈ seen V1 V0.length true k x, V0.length ≤ id := by
      intro k
      induction k with
      | zero => intro x id h; simp [seen] at h
      | succ k ih =>
        intro x id h
        have many : ∀ l : List DV, id ∈ l.flatMap (seen V1 V0.length true k) → V0.length ≤ id := fun l hl => by
          obtain ⟨z, _, hz⟩ := List.mem_flatMap.1 hl; exact ih z id hz
        have manyM : ∀ l : List (Value × DV), id ∈ l.flatMap (fun (e : Value × DV) => seen V1 V0.length true k e.2) → V0.length ≤ id := fun l hl => by
          obtain ⟨z, _, hz⟩ := List.mem_flatMap.1 hl; exact ih z.2 id hz
        cases x <;> simp only [seen] at h <;> try (simp at h; done)
        case ptr j g off =>
          split at h
          · simp at h
          · rename_i hn
            rcases List.mem_cons.1 h with rfl | h
            · exact Nat.le_of_not_lt fun h' => hn (.inl h')
            · exact many _ h
        case slc j g off n cap sz =>
          split at h
          · simp at h
          · rename_i hn
            rcases List.mem_cons.1 h with rfl | h
            · exact Nat.le_of_not_lt hn
            · exact many _ h
        case map j =>
          split at h
          · simp at h
          · rename_i hn
            rcases List.mem_cons.1 h with rfl | h
            · exact Nat.le_of_not_lt fun h' => hn (.inl h')
            · exact manyM _ h
        case fmap es => exact manyM _ h
        case func f a c =>
          split at h
          · simp at h
          · rcases List.mem_append.1 h with h | h
            · exact many _ h
            · exact many _ h
        case iface t z => exact ih z id h
        case agg l => exact many l h
        case tuple l => exact many l h
    have hmapc : ∀ id i es ver, true = true → V0.length ≤ id → V1[id]? = some (.map es ver) → ρ1 id = some (0, i) → frozen Φ1 ρ1 H1 V0.length but i = H1.get i := fun id i es ver _ h1 h2 h3 =>
      frozen_own inv1 h1 (fun hb => (hbut id hb).2 es ver h2) h3
    have one : ∀ x v y, (∀ id ∈ seen V1 V0.length true fzN x, ¬ but id) → DVR Φ1 ρ1 x v → fz V1 V0.length true fzN x = some y → DVR (frozen Φ1 ρ1 H1 V0.length but) ρ' y v := by
      intro x v y hs hx hy
      refine fz_sim inv1 hle (fun id h => ?_) hmapc fzN x v y (hcov _ fun id hid => ⟨hs id hid, seen_ge _ _ id hid⟩) hx hy
      rcases h with h | h
      · exact hold id h
      · cases h
    have old_i : ∀ id g i, ρ' id = some (g, i) → id < V0.length → ρ1 id = some (g, i) := fun id g i h hl => by rw [← hold id hl]; exact h
    refine ⟨?_, ?_, ?_, ?_, ?_, tr.phi.trans hle, hrho, ?_⟩
    · intro l m r hs hl hr
      exact mapO_vsim hl (fun x hx v y hxv hy => one x v y (fun id hid => hs id (List.mem_flatMap.2 ⟨x, hx, hid⟩)) hxv hy) hr
    · intro id g i h
      rcases Nat.lt_trichotomy id V0.length with hl | hl | hl
      · exact ⟨by omega, (inv1.dom _ _ _ (old_i _ _ _ h hl)).2⟩
      · subst hl
        obtain ⟨id', g', _, h2⟩ := hnew g i h
        exact ⟨Nat.le_refl _, (inv1.dom _ _ _ h2).2⟩
      · exact (hnone id g i hl h).elim
    · intro id id' g g' i h h'
      rcases Nat.lt_trichotomy id V0.length with hl | hl | hl
      · rcases Nat.lt_trichotomy id' V0.length with hl' | hl' | hl'
        · exact inv1.inj _ _ _ _ _ (old_i _ _ _ h hl) (old_i _ _ _ h' hl')
        · subst hl'
          obtain ⟨id2, g2, h1, h2⟩ := hnew g' i h'
          have := inv1.inj _ _ _ _ _ (old_i _ _ _ h hl) h2
          omega
        · exact (hnone _ _ _ hl' h').elim
      · rcases Nat.lt_trichotomy id' V0.length with hl' | hl' | hl'
        · subst hl
          obtain ⟨id2, g2, h1, h2⟩ := hnew g i h
          have := inv1.inj _ _ _ _ _ (old_i _ _ _ h' hl') h2
          omega
        · omega
        · exact (hnone _ _ _ hl' h').elim
      · exact (hnone _ _ _ hl h).elim
    · intro id c m lk g ver h
      obtain ⟨b0, b1, h1, h2, h3⟩ := hblk id _ h
      have hl : id < V0.length := (List.getElem?_eq_some_iff.1 h1).1
      unfold leaveB at h3
      split at h3
      · rename_i c0 m0 l0 g0 v0 c1 m1 l1 g1 v1
        split at h3
        · rename_i hv
          injection h3 with h3; injection h3 with q1 q2 q3 q4 q5
          subst q1; subst q2; subst q3; subst q4; subst q5; subst hv
          obtain ⟨i0, cs0, k1, k2, k3, _⟩ := inv0.cells _ _ _ _ _ _ h1
          obtain ⟨i1, cs1, p1, p2, p3, p4, p5⟩ := inv1.cells _ _ _ _ _ _ h2
          obtain ⟨v', t1, t2, t3⟩ := tr.ver id v0 (by unfold verOf; rw [h1]; rfl)
          have hv' : v' = v0 := by unfold verOf at t1; rw [h2] at t1; simp [VBlk.ver] at t1; exact t1.symm
          obtain ⟨r1, r2⟩ := t3 hv' g0 i0 k1
          have hg : g0 = g1 ∧ i0 = i1 := by rw [r1] at p1; injection p1 with p1; injection p1 with a b; exact ⟨a, b⟩
          obtain ⟨rfl, rfl⟩ := hg
          rw [k2] at r2
          rw [r2] at p2
          injection p2 with p2; injection p2 with p2 p2'; subst p2; subst p2'
          refine ⟨i0, cs0, by rw [hold id hl]; exact r1, r2, k3.mono (tr.phi.trans hle) hrho, fun hk => hle _ _ (p4 hk), fun hk => frozen_old inv1 (.inl hl) r1 (p5 hk)⟩
        · rename_i hv
          simp only [Option.map_eq_some_iff] at h3
          obtain ⟨c', hc', h3⟩ := h3
          injection h3 with q1 q2 q3 q4 q5
          subst q1; subst q2; subst q3; subst q4; subst q5
          obtain ⟨i1, cs1, p1, p2, p3, p4, p5⟩ := inv1.cells _ _ _ _ _ _ h2
          refine ⟨i1, cs1, by rw [hold id hl]; exact p1, p2, ?_, fun hk => hle _ _ (p4 hk), fun hk => frozen_old inv1 (.inl hl) p1 (p5 hk)⟩
          refine mapO_vsim p3 (fun x hx v y hxv hy => one x v y (fun j hj => hseen j (seenH_mem h1 h2 j ?_)) hxv hy) hc'
          simp only [seenB, if_neg hv]
          exact List.mem_flatMap.2 ⟨x, hx, hj⟩
      · split at h3
        · injection h3 with h3; cases h3
        · simp only [Option.map_eq_some_iff] at h3; obtain ⟨_, _, h3⟩ := h3; cases h3
      · cases h3
    · intro id es ver h
      obtain ⟨b0, b1, h1, h2, h3⟩ := hblk id _ h
      have hl : id < V0.length := (List.getElem?_eq_some_iff.1 h1).1
      unfold leaveB at h3
      split at h3
      · split at h3
        · injection h3 with h3; cases h3
        · simp only [Option.map_eq_some_iff] at h3; obtain ⟨_, _, h3⟩ := h3; cases h3
      · rename_i e0 v0 e1 v1
        split at h3
        · rename_i hv
          injection h3 with h3; injection h3 with q1 q2
          subst q1; subst q2; subst hv
          obtain ⟨i0, fs0, k1, k2, k3, _⟩ := inv0.maps _ _ _ h1
          obtain ⟨i1, fs1, p1, p2, p3, p4⟩ := inv1.maps _ _ _ h2
          obtain ⟨v', t1, t2, t3⟩ := tr.ver id v0 (by unfold verOf; rw [h1]; rfl)
          have hv' : v' = v0 := by unfold verOf at t1; rw [h2] at t1; simp [VBlk.ver] at t1; exact t1.symm
          obtain ⟨r1, r2⟩ := t3 hv' 0 i0 k1
          have hg : i0 = i1 := by rw [r1] at p1; injection p1 with p1; injection p1
          subst hg
          rw [k2] at r2
          refine ⟨i0, fs0, by rw [hold id hl]; exact r1, r2, k3.mono (tr.phi.trans hle) hrho, frozen_old inv1 (.inl hl) r1 p4⟩
        · rename_i hv
          simp only [Option.map_eq_some_iff] at h3
          obtain ⟨c', hc', h3⟩ := h3
          injection h3 with q1 q2
          subst q1; subst q2
          obtain ⟨i1, fs1, p1, p2, p3, p4⟩ := inv1.maps _ _ _ h2
          refine ⟨i1, fs1, by rw [hold id hl]; exact p1, p2, ?_, frozen_old inv1 (.inl hl) p1 p4⟩
          refine mapO_map_vsim p3 (fun x hx v y hxv hy => one x.2 v y (fun j hj => hseen j (seenH_mem h1 h2 j ?_)) hxv hy) hc'
          simp only [seenB, if_neg hv]
          exact List.mem_flatMap.2 ⟨x, hx, hj⟩
      · cases h3
    · intro id v h
      obtain ⟨v', h1, h2, h3⟩ := tr.ver id v h
      have hl := verOf_lt h
      have hlr : id < Vr.length := by omega
      obtain ⟨b0, b1, k1, k2, k3⟩ := hblk id Vr[id] (List.getElem?_eq_getElem hlr)
      refine ⟨v', ?_, h2, fun hv g i hi => ?_⟩
      · unfold verOf at h1 ⊢
        rw [k2] at h1
        rw [List.getElem?_eq_getElem hlr]
        simp only [Option.map_some] at h1 ⊢
        rw [leaveB_ver k3]; exact h1
      · obtain ⟨a, b⟩ := h3 hv g i hi
        exact ⟨by rw [hold id hl]; exact a, b⟩
  split at e
  · -- nothing is handed on
    simp only [Option.map_eq_some_iff] at e
    obtain ⟨r, hr, e⟩ := e
    injection e with e1 e2; subst e1; subst e2
    obtain ⟨c1, c2, c3, c4, c5, c6, c7, c8⟩ := core (fun _ => False) (fun id => if id < V0.length then ρ1 id else none) (fun id h => if_pos h) (fun id g i h h' => by simp only [if_neg (Nat.not_lt_of_le (Nat.le_of_lt h))] at h'; cases h') (fun _ _ h => h) (fun _ h => h.elim) (fun g i h => by simp at h)
    refine ⟨_, _, ⟨fun id g i h => ⟨?_, (c2 id g i h).2⟩, c3, c4, c5, fun i b h => frozen_phi inv1 h⟩, ⟨by omega, tr.hn, c6, c7, c8⟩, c1 _ _ _ (fun _ _ h => h) hv hr⟩
    have : id < V0.length := by
      rcases Nat.lt_or_ge id V0.length with h' | h'
      · exact h'
      · simp only [if_neg (Nat.not_lt_of_le h')] at h; cases h
    omega
  · rename_i j id g off n cap sz hown
    have hown' : ownOf V0.length vs = some (j, id, g, off, n, cap, sz) := by
      cases mv with
      | true => simpa using hown
      | false => simp at hown
    obtain ⟨hj, hlo⟩ := ownOf_spec hown'
    split at e
    · rename_i c m g' ver hb
      split at e
      · rename_i hcond
        obtain ⟨hg, hseen⟩ := hcond
        subst hg
        split at e
        · rename_i r c' hr hc'
          injection e with e; injection e with e1 e2; subst e1; subst e2
          obtain ⟨i, cs, k1, k2, k3, k4, k5⟩ := inv1.cells _ _ _ _ _ _ hb
          have hnot : ∀ x, (x ∈ ((vs.set j undefD) ++ c).flatMap (seen V1 V0.length true fzN) ∨ x ∈ seenH (seen V1 V0.length true fzN) V0 V1) → x ≠ id := by
            intro x hx he
            subst he
            have : x ∈ (((vs.set j undefD) ++ c).flatMap (seen V1 V0.length true fzN)) ++ seenH (seen V1 V0.length true fzN) V0 V1 := List.mem_append.2 hx
            have h2 : ((((vs.set j undefD) ++ c).flatMap (seen V1 V0.length true fzN)) ++ seenH (seen V1 V0.length true fzN) V0 V1).contains x = true := by simpa using this
            rw [h2] at hseen; cases hseen
          obtain ⟨c1, c2, c3, c4, c5, c6, c7, c8⟩ := core (fun x => x = id) (fun x => if x < V0.length then ρ1 x else if x = V0.length then some (0, i) else none) (fun x h => if_pos h)
            (fun x g i h h' => by simp only [if_neg (Nat.not_lt_of_le (Nat.le_of_lt h)), if_neg (Nat.ne_of_gt h)] at h'; cases h')
            (fun x hx => hnot x (.inr hx)) (fun x hx => by subst hx; exact ⟨hlo, fun es ver h => by rw [hb] at h; cases h⟩)
            (fun g2 i2 h => by simp at h; exact ⟨id, g', hlo, by rw [← h.2]; exact k1⟩)
          have hnew : (fun x => if x < V0.length then ρ1 x else if x = V0.length then some (0, i) else none) V0.length = some (0, i) := by simp
          have hcells : DVRs (frozen Φ1 ρ1 H1 V0.length fun x => x = id) (fun x => if x < V0.length then ρ1 x else if x = V0.length then some (0, i) else none) c' cs :=
            c1 _ _ _ (fun x hx => hnot x (.inl (by rw [List.flatMap_append]; exact List.mem_append_right _ hx))) k3 hc'
          obtain ⟨w, hw, hwr⟩ := hv.get j _ hj
          obtain ⟨rfl, hnc⟩ := dvr_slc k1 hwr
          have hset : DVRs Φ1 ρ1 (vs.set j undefD) (ws.set j undefV) := DVRs.set j hv dvr_undef
          have hrest := c1 _ _ _ (fun x hx => hnot x (.inl (by rw [List.flatMap_append]; exact List.mem_append_left _ hx))) hset hr
          have hfin := DVRs.set j hrest (DVR.slc (Φ := frozen Φ1 ρ1 H1 V0.length fun x => x = id) V0.length 0 off n cap sz i hnew hnc)
          have hws : (ws.set j undefV).set j (slc i off n cap) = ws := by
            rw [List.set_set]
            apply List.ext_getElem?
            intro q
            by_cases hq : j = q
            · subst hq
              obtain ⟨hl, _⟩ := List.getElem?_eq_some_iff.1 hw
              rw [List.getElem?_set_self hl, hw]
            · rw [List.getElem?_set_ne hq]
          have hfin' : DVRs (frozen Φ1 ρ1 H1 V0.length fun x => x = id) (fun x => if x < V0.length then ρ1 x else if x = V0.length then some (0, i) else none) (r.set j (.slc V0.length 0 off n cap sz)) ws := by
            have : DVRs (frozen Φ1 ρ1 H1 V0.length fun x => x = id) (fun x => if x < V0.length then ρ1 x else if x = V0.length then some (0, i) else none) (r.set j (.slc V0.length 0 off n cap sz)) ((ws.set j undefV).set j (slc i off n cap)) := hfin
            rw [hws] at this; exact this
          refine ⟨_, _, ⟨fun x g2 i2 h => ⟨by have := (c2 x g2 i2 h).1; simp; omega, (c2 x g2 i2 h).2⟩, c3, ?_, ?_, fun i b h => frozen_phi inv1 h⟩, ⟨by simp; omega, tr.hn, c6, c7, ?_⟩, hfin'⟩
          · intro x c2' m2 lk2 g2 ver2 h
            by_cases hx : x < Vr.length
            · rw [List.getElem?_append_left hx] at h; exact c4 _ _ _ _ _ _ h
            · rw [List.getElem?_append_right (by omega)] at h
              have hxe : x = V0.length := by
                rcases Nat.eq_or_lt_of_le (Nat.le_of_not_lt hx) with h' | h'
                · omega
                · rw [List.getElem?_eq_none (by simp; omega)] at h; cases h
              subst hxe
              rw [hlen, Nat.sub_self] at h
              simp at h
              obtain ⟨rfl, rfl, rfl, rfl, rfl⟩ := h
              exact ⟨i, cs, hnew, k2, hcells, (fun h => nomatch h), fun _ => frozen_old inv1 (.inr rfl) k1 (k5 rfl)⟩
          · intro x es2 ver2 h
            by_cases hx : x < Vr.length
            · rw [List.getElem?_append_left hx] at h; exact c5 _ _ _ h
            · rw [List.getElem?_append_right (by omega)] at h
              rcases Nat.eq_or_lt_of_le (Nat.le_of_not_lt hx) with h' | h'
              · rw [← h', Nat.sub_self] at h; simp at h
              · rw [List.getElem?_eq_none (by simp; omega)] at h; cases h
          · intro x v h
            have hl := verOf_lt h
            obtain ⟨v', q1, q2, q3⟩ := c8 x v h
            exact ⟨v', by rw [verOf_push (by omega)]; exact q1, q2, q3⟩
        · cases e
      · cases e
    · cases e
end
end Go.Abs
/- The machine of values: what it runs to, the abstract machine runs to. -/
namespace Go.Abs
open Go Go.RowKit
set_option linter.unusedVariables false
set_option linter.unusedSimpArgs false

section
variable {P : Program} {aorc : Orc}
def SimV (P : Program) (aorc : Orc) (run : VCall) : Prop := ∀ f mv args V r V', run f mv args V = some (r, V') → ∀ Φ ρ H args', VInv Φ ρ V H → DVRs Φ ρ args args' →
  ∃ k v H' Φ' ρ', arun P aorc k f ⟨args'⟩ H = some (v, H') ∧ DVR Φ' ρ' r v ∧ VInv Φ' ρ' V' H' ∧ Tr Φ ρ V H Φ' ρ' V' H'
def VOrcOk (P : Program) (aorc : Orc) (vorc : VOrc) : Prop :=
  (∀ f mv args V, vask vorc f mv args V = none → aorc f = none) ∧ ∀ f mv args V r V', vask vorc f mv args V = some (some (r, V')) → ∀ Φ ρ H args', VInv Φ ρ V H → DVRs Φ ρ args args' →
    ∃ k v H' Φ' ρ', arun P aorc k f ⟨args'⟩ H = some (v, H') ∧ DVR Φ' ρ' r v ∧ VInv Φ' ρ' V' H' ∧ Tr Φ ρ V H Φ' ρ' V' H'

theorem flat1_free {Φ Φ' : Phi} {ρ ρ' : Rn} {x : DV} {v : Value} (h : DVR Φ ρ x v) (hf : flat1 x = true) : DVR Φ' ρ' x v := by
  unfold flat1 at hf
  split at hf
  · obtain ⟨rfl, h2⟩ := dvr_v h; exact .d _ _ (.v _ h2)
  · cases hf
theorem flats_free {Φ Φ' : Phi} {ρ ρ' : Rn} : ∀ {l : List DV} {m : List Value}, DVRs Φ ρ l m → l.all flat1 = true → DVRs Φ' ρ' l m
  | _, _, .nil, _ => .nil
  | _, _, .cons a b l m h1 h2, h => by
    simp only [List.all_cons, Bool.and_eq_true] at h
    exact .cons _ _ _ _ (flat1_free h1 h.1) (flats_free h2 h.2)
theorem flatD_free {Φ Φ' : Phi} {ρ ρ' : Rn} {x : DV} {v : Value} (h : DVR Φ ρ x v) (hf : flatD x = true) : DVR Φ' ρ' x v := by
  unfold flatD at hf
  split at hf
  · exact flat1_free h rfl
  · cases h with
    | agg _ l' hl => exact .agg _ _ (flats_free hl hf)
  · cases h with
    | tuple _ l' hl => exact .tuple _ _ (flats_free hl hf)
  · cases hf

theorem sameVers_spec {V V' : VHeap} (h : sameVers V V' = true) : ∀ id, id < V.length → verOf V' id = verOf V id := by
  intro id hid
  have := List.all_eq_true.1 h id (List.mem_range.2 hid)
  simpa using this
theorem vcall_sim {tab : FuncId → Mode} {run : VCall} (hs : SimV P aorc run) {f : FuncId} {args : List DV} {V V' : VHeap} {r : DV} (e : vcall tab run f args V = some (r, V')) : ∀ Φ ρ H args', VInv Φ ρ V H → DVRs Φ ρ args args' →
    ∃ k v H' Φ' ρ', arun P aorc k f ⟨args'⟩ H = some (v, H') ∧ DVR Φ' ρ' r v ∧ VInv Φ' ρ' V' H' ∧ Tr Φ ρ V H Φ' ρ' V' H' := by
  intro Φ ρ H args' inv ha
  unfold vcall at e
  split at e
  · exact hs f _ args V r V' e Φ ρ H args' inv ha
  · split at e
    · cases e
    · rename_i args2 hargs
      obtain ⟨Φ1, t1, i1, c1⟩ := lockAll_sim (args.flatMap (seen V 0 false fzN)) inv
      have ha2 : DVRs Φ1 ρ args2 args' := by
        refine mapO_vsim ha (fun x hx v y hxv hy => fz_sim (lo := 0) (pt := false) inv t1.phi (fun _ _ => rfl) (fun id i es ver h => by cases h) fzN x v y (fun id hid => c1 id (List.mem_flatMap.2 ⟨x, hx, hid⟩)) hxv hy) hargs
      cases hr : run f (tab f).move args2 (lockAll (args.flatMap (seen V 0 false fzN)) V) with
      | none => rw [hr] at e; cases e
      | some y =>
        obtain ⟨r0, V2⟩ := y
        rw [hr] at e
        simp only at e
        obtain ⟨k, v, H', Φ', ρ', h1, h2, h3, h4⟩ := hs f _ args2 _ r0 V2 hr Φ1 ρ H args' i1 ha2
        split at e
        · rename_i hc
          injection e with e; injection e with e1 e2; subst e1; subst e2
          simp only [Bool.and_eq_true, decide_eq_true_eq] at hc
          obtain ⟨⟨hf, hv⟩, hl⟩ := hc
          have tt := t1.trans h4
          have same : ∀ id g i, ρ id = some (g, i) → H'.get i = H.get i := fun id g i hi => ver_same inv tt hi (sameVers_spec hv id (inv.dom _ _ _ hi).1)
          refine ⟨k, v, H', Φ, ρ, h1, flatD_free h2 hf, ⟨fun id g i hi => ⟨(inv.dom _ _ _ hi).1, Nat.lt_of_lt_of_le (inv.dom _ _ _ hi).2 tt.hn⟩, inv.inj, ?_, ?_, ?_⟩, ⟨Nat.le_refl _, tt.hn, PLe.refl _, RLe.refl _, fun id v h => ⟨v, h, Nat.le_refl _, fun _ g i hi => ⟨hi, same id g i hi⟩⟩⟩⟩
          · intro id c m lk g ver hb
            obtain ⟨i, cs, q1, q2, q3, q4, q5⟩ := inv.cells _ _ _ _ _ _ hb
            exact ⟨i, cs, q1, by rw [same _ _ _ q1]; exact q2, q3, q4, q5⟩
          · intro id es ver hb
            obtain ⟨i, fs, q1, q2, q3, q4⟩ := inv.maps _ _ _ hb
            exact ⟨i, fs, q1, by rw [same _ _ _ q1]; exact q2, q3, q4⟩
          · intro i b hb
            exact h3.phi _ _ (tt.phi _ _ hb)
        · injection e with e; injection e with e1 e2; subst e1; subst e2
          exact ⟨k, v, H', Φ', ρ', h1, h2, h3, t1.trans h4⟩

/-! One operation -/
theorem vstep_sim {tab : FuncId → Mode} {run : VCall} (hs : SimV P aorc run) {Φ : Phi} {ρ : Rn} {V : VHeap} {H : Heap} (inv : VInv Φ ρ V H) {dev : Operand → DV} {aev : Operand → Value} {o : Oper} (hev : ∀ x ∈ o.op.operands, DVR Φ ρ (dev x) (aev x))
    {r : DV} {V' : VHeap} (e : vstep P tab run dev o V = some (r, V')) :
    ∃ k v H' Φ' ρ', astep P (arun P aorc k) aev o H = some (v, H') ∧ DVR Φ' ρ' r v ∧ VInv Φ' ρ' V' H' ∧ Tr Φ ρ V H Φ' ρ' V' H' := by
  unfold vstep at e
  split at e
  · rename_i x V1 ho
    injection e with e; injection e with e1 e2; subst e1; subst e2
    obtain ⟨v, H', Φ', ρ', h1, h2, h3, h4⟩ := vop_sim inv hev ho
    exact ⟨0, v, H', Φ', ρ', by unfold astep; rw [h1], h2, h3, h4⟩
  · rename_i f args ho
    obtain ⟨args', h1, h2⟩ := vop_sim inv hev ho
    obtain ⟨k, v, H', Φ', ρ', h3, h4, h5, h6⟩ := vcall_sim hs e Φ ρ H args' inv h2
    exact ⟨k, v, H', Φ', ρ', by unfold astep; rw [h1]; exact h3, h4, h5, h6⟩
  · cases e

/-! Slots -/
theorem getD_vsim {Φ : Phi} {ρ : Rn} {ts : Array DV} {as : Array Value} (h : DVRs Φ ρ ts.toList as.toList) (t : Nat) : DVR Φ ρ (ts.getD t undefD) (as.getD t undefV) := by
  have hl := h.length_eq
  simp only [Array.length_toList] at hl
  rw [Array.getD_eq_getD_getElem?, Array.getD_eq_getD_getElem?]
  by_cases ht : t < ts.size
  · obtain ⟨v, h1, h2⟩ := h.get t ts[t] (by simp [ht])
    have e1 : ts[t]? = some ts[t] := Array.getElem?_eq_getElem ht
    have e2 : as[t]? = some v := by rw [← Array.getElem?_toList]; exact h1
    rw [e1, e2]; exact h2
  · rw [Array.getElem?_eq_none (xs := ts) (Nat.le_of_not_lt ht), Array.getElem?_eq_none (xs := as) (by have := Nat.le_of_not_lt ht; rw [hl]; exact this)]
    exact dvr_undef
theorem eval_vsim {Φ : Phi} {ρ : Rn} {ts : Array DV} {as : Array Value} (h : DVRs Φ ρ ts.toList as.toList) (x : Operand) (hx : noGlobalOp x = true) : DVR Φ ρ (evalD ts x) (evalT as x) := by
  cases x with
  | tmp t => exact getD_vsim h t
  | const v => exact dvr_ofV v (by simpa [noGlobalOp] using hx)
  | global g => exact dvr_undef
  | func f => exact .func _ _ _ _ _ .nil .nil
theorem put_vsim {Φ : Phi} {ρ : Rn} {ts : Array DV} {as : Array Value} (h : DVRs Φ ρ ts.toList as.toList) (d : Option Tmp) {x : DV} {v : Value} (hx : DVR Φ ρ x v) : DVRs Φ ρ (putD ts d x).toList (putT as d v).toList := by
  cases d with
  | none => exact h
  | some t =>
    simp only [putD, putT, Array.toList_setIfInBounds]
    exact DVRs.set t h hx
theorem dvr_to_bool {Φ : Phi} {ρ : Rn} {x : DV} {b : Bool} (h : DVR Φ ρ x (.bool b)) : x = .d (.v (.bool b)) := by
  cases h with
  | d _ _ hd => cases hd with
    | v => rfl
theorem yield_vsim {Φ : Phi} {ρ : Rn} {ops : Array Oper} {ts : Array DV} {as : Array Value} (h : DVRs Φ ρ ts.toList as.toList) (i : Nat) : yieldD ops ts i = yielded ops as i := by
  unfold yieldD yielded
  cases (ops[i]?).bind (·.dst) with
  | none => rfl
  | some t =>
    simp only [Option.bind_some]
    have hl := h.length_eq
    simp only [Array.length_toList] at hl
    by_cases ht : t < ts.size
    · obtain ⟨v, h1, h2⟩ := h.get t ts[t] (by simp [ht])
      have e1 : ts[t]? = some ts[t] := Array.getElem?_eq_getElem ht
      have e2 : as[t]? = some v := by rw [← Array.getElem?_toList]; exact h1
      rw [e1, e2]
      generalize ts[t] = x at h2
      cases h2 with
      | d _ _ hd => cases hd with
        | v y hf => cases v <;> rfl
        | nil => rfl
        | cut => rfl
        | rows => rfl
      | _ => rfl
    · rw [Array.getElem?_eq_none (xs := ts) (Nat.le_of_not_lt ht), Array.getElem?_eq_none (xs := as) (by have := Nat.le_of_not_lt ht; rw [hl]; exact this)]

theorem ops_env {Φ : Phi} {ρ : Rn} {ops : Array Oper} (hg : ops.all noGlobal = true) {i : Nat} {o : Oper} (ho : ops[i]? = some o) {ts : Array DV} {as : Array Value} (h : DVRs Φ ρ ts.toList as.toList) : ∀ x ∈ o.op.operands, DVR Φ ρ (evalD ts x) (evalT as x) := by
  intro x hx
  have h1 : noGlobal o = true := by
    obtain ⟨hi, rfl⟩ := Array.getElem?_eq_some_iff.1 ho
    exact Array.all_eq_true.1 hg i hi
  unfold noGlobal at h1
  obtain ⟨j, hj, rfl⟩ := Array.getElem_of_mem hx
  exact eval_vsim h _ (Array.all_eq_true.1 h1 j hj)

theorem vops_sim {tab : FuncId → Mode} {run : VCall} (hs : SimV P aorc run) {ops : Array Oper} (hg : ops.all noGlobal = true) : ∀ (l : List Nat) (ts : Array DV) (V : VHeap) (ts' : Array DV) (V' : VHeap), vops P tab run ops l ts V = some (ts', V') →
    ∀ Φ ρ H as, VInv Φ ρ V H → DVRs Φ ρ ts.toList as.toList → ∃ k as' H' Φ' ρ', aops P (arun P aorc k) ops l as H = some (as', H') ∧ DVRs Φ' ρ' ts'.toList as'.toList ∧ VInv Φ' ρ' V' H' ∧ Tr Φ ρ V H Φ' ρ' V' H' := by
  intro l
  induction l with
  | nil =>
    intro ts V ts' V' e Φ ρ H as inv h
    simp only [vops] at e
    injection e with e; injection e with e1 e2; subst e1; subst e2
    exact ⟨0, as, H, Φ, ρ, rfl, h, inv, Tr.refl _ _ _ _⟩
  | cons i rest ih =>
    intro ts V ts' V' e Φ ρ H as inv h
    simp only [vops] at e
    cases ho : ops[i]? with
    | none => rw [ho] at e; cases e
    | some o =>
      rw [ho] at e
      simp only at e
      have hw : yieldD ops ts = yielded ops as := funext fun j => yield_vsim h j
      rw [hw] at e
      split at e
      · rename_i hwant
        cases hst : vstep P tab run (evalD ts) o V with
        | none => rw [hst] at e; cases e
        | some y =>
          obtain ⟨x, V1⟩ := y
          rw [hst] at e
          simp only at e
          obtain ⟨k1, v, H1, Φ1, ρ1, h1, h2, h3, h4⟩ := vstep_sim hs inv (ops_env hg ho h) hst
          obtain ⟨k2, as', H2, Φ2, ρ2, g1, g2, g3, g4⟩ := ih _ _ _ _ e Φ1 ρ1 H1 _ h3 (put_vsim (h.mono h4.phi h4.rho) o.dst h2)
          refine ⟨max k1 k2, as', H2, Φ2, ρ2, ?_, g2, g3, h4.trans g4⟩
          simp only [aops, ho, if_pos hwant, astep_mono' (Nat.le_max_left k1 k2) h1]
          exact aops_up (Nat.le_max_right k1 k2) g1
      · rename_i hwant
        obtain ⟨k2, as', H2, Φ2, ρ2, g1, g2, g3, g4⟩ := ih _ _ _ _ e Φ ρ H _ inv (put_vsim h o.dst dvr_undef)
        exact ⟨k2, as', H2, Φ2, ρ2, by simp only [aops, ho, if_neg hwant]; exact g1, g2, g3, g4⟩

/-! What is held -/
def HeldR (Φ : Phi) (ρ : Rn) (V : VHeap) (H : Heap) (vh : VHeld) (ah : Held) : Prop :=
  ah.upto = vh.upto ∧ ∀ Φ' ρ' V' H', Tr Φ ρ V H Φ' ρ' V' H' → VInv Φ' ρ' V' H' → depOk vh.dep V' = true → ah.read H' = some ah.was
inductive HeldsR (Φ : Phi) (ρ : Rn) (V : VHeap) (H : Heap) : List VHeld → List Held → Prop
  | nil : HeldsR Φ ρ V H [] []
  | cons (a : VHeld) (b : Held) (l : List VHeld) (m : List Held) : HeldR Φ ρ V H a b → HeldsR Φ ρ V H l m → HeldsR Φ ρ V H (a :: l) (b :: m)
theorem HeldsR.on {Φ Φ' : Phi} {ρ ρ' : Rn} {V V' : VHeap} {H H' : Heap} (tr : Tr Φ ρ V H Φ' ρ' V' H') : ∀ {l : List VHeld} {m : List Held}, HeldsR Φ ρ V H l m → HeldsR Φ' ρ' V' H' l m
  | _, _, .nil => .nil
  | _, _, .cons a b l m h1 h2 => .cons _ _ _ _ ⟨h1.1, fun Φ2 ρ2 V2 H2 t i d => h1.2 Φ2 ρ2 V2 H2 (tr.trans t) i d⟩ (HeldsR.on tr h2)
theorem HeldsR.ok {Φ : Phi} {ρ : Rn} {V : VHeap} {H : Heap} (inv : VInv Φ ρ V H) (m : Nat) : ∀ {l : List VHeld} {hs : List Held}, HeldsR Φ ρ V H l hs → vheldOk m V l = true → heldOk m H hs = true
  | _, _, .nil, _ => rfl
  | _, _, .cons a b l hs h1 h2, h => by
    simp only [vheldOk, List.all_cons, Bool.and_eq_true, Bool.or_eq_true, decide_eq_true_eq] at h
    have h3 := HeldsR.ok inv m h2 (by simpa [vheldOk] using h.2)
    simp only [heldOk, List.all_cons, Bool.and_eq_true, Bool.or_eq_true, decide_eq_true_eq]
    refine ⟨?_, by simpa [heldOk] using h3⟩
    rcases h.1 with h4 | h4
    · left; rw [h1.1]; exact h4
    · right
      rw [h1.2 Φ ρ V H (Tr.refl _ _ _ _) inv h4]
      exact veq_refl _

theorem vdraw_sim {tab : FuncId → Mode} {run : VCall} (hs : SimV P aorc run) {ops : Array Oper} (hg : ops.all noGlobal = true) (up : Nat → Nat) : ∀ (l : List Nat) (m : Nat) (vh : List VHeld) (ts : Array DV) (V : VHeap) (ts' : Array DV) (V' : VHeap), vdraw P tab run ops up l m vh ts V = some (ts', V') →
    ∀ Φ ρ H as ah, VInv Φ ρ V H → DVRs Φ ρ ts.toList as.toList → HeldsR Φ ρ V H vh ah → ∃ k as' H' Φ' ρ', adraw P (arun P aorc k) ops up l m ah as H = some (as', H') ∧ DVRs Φ' ρ' ts'.toList as'.toList ∧ VInv Φ' ρ' V' H' ∧ Tr Φ ρ V H Φ' ρ' V' H' := by
  intro l
  induction l with
  | nil =>
    intro m vh ts V ts' V' e Φ ρ H as ah inv h hh
    simp only [vdraw] at e
    injection e with e; injection e with e1 e2; subst e1; subst e2
    exact ⟨0, as, H, Φ, ρ, rfl, h, inv, Tr.refl _ _ _ _⟩
  | cons i rest ih =>
    intro m vh ts V ts' V' e Φ ρ H as ah inv h hh
    simp only [vdraw] at e
    cases ho : ops[i]? with
    | none => rw [ho] at e; cases e
    | some o =>
      rw [ho] at e
      simp only at e
      have hw : yieldD ops ts = yielded ops as := funext fun j => yield_vsim h j
      rw [hw] at e
      split at e
      · rename_i hwant
        cases hst : vstep P tab run (evalD ts) o V with
        | none => rw [hst] at e; cases e
        | some y =>
          obtain ⟨x, V1⟩ := y
          rw [hst] at e
          simp only at e
          split at e
          · cases e
          · rename_i hok
            have henv := ops_env hg ho h
            obtain ⟨k1, v, H1, Φ1, ρ1, h1, h2, h3, h4⟩ := vstep_sim hs inv henv hst
            have hh1 := hh.on h4
            -- what is held from here on
            have hnew : HeldsR Φ1 ρ1 V1 H1 (if kindOf o.op = .read ∧ up i ≠ m then ⟨up i, vdep (evalD ts) o V⟩ :: vh else vh) (if kindOf o.op = .read ∧ up i ≠ m then ⟨up i, fun H => valOf (aop P (evalT as) o H), v⟩ :: ah else ah) := by
              split
              · rename_i hk
                refine .cons _ _ _ _ ⟨rfl, fun Φ2 ρ2 V2 H2 t i2 d => ?_⟩ hh1
                -- a read is no call
                have hval : ∃ V2', vop P (evalD ts) o V = some (.val x V2') := by
                  unfold vstep at hst
                  split at hst
                  · rename_i x' V1' ho'; injection hst with hst; injection hst with a b; subst a; exact ⟨_, ho'⟩
                  · rename_i f args ho'
                    obtain ⟨args', q1, _⟩ := vop_sim inv henv ho'
                    exfalso
                    have := hk.1
                    revert this q1
                    obtain ⟨dst, op, type, pos, after, guard⟩ := o
                    cases op <;> simp only [vop] at ho' <;> simp [kindOf] <;> (try (simp at ho'; done))
                    rename_i c
                    obtain ⟨callee, as1, ts1⟩ := c
                    cases callee with
                    | value f => simp
                    | invoke r n => simp
                    | builtin b => cases b <;> simp at ho' ⊢
                  · cases hst
                obtain ⟨V2', hv⟩ := hval
                obtain ⟨v2, H2', Φ2', ρ2', q1, q2, q3, q4⟩ := vop_sim inv henv hv
                have hv2 : v2 = v := by
                  unfold astep at h1
                  rw [q1] at h1
                  simp only at h1
                  injection h1 with h1; injection h1 with a b
                subst hv2
                exact read_stable inv henv hk.1 hv q1 (h4.trans t) i2 d
              · exact hh1
            obtain ⟨k2, as', H2, Φ2, ρ2, g1, g2, g3, g4⟩ := ih _ _ _ _ _ _ e Φ1 ρ1 H1 _ _ h3 (put_vsim (h.mono h4.phi h4.rho) o.dst h2) hnew
            refine ⟨max k1 k2, as', H2, Φ2, ρ2, ?_, g2, g3, h4.trans g4⟩
            simp only [adraw, ho, if_pos hwant, astep_mono' (Nat.le_max_left k1 k2) h1]
            rw [if_neg]
            · exact adraw_up (Nat.le_max_right k1 k2) g1
            · rintro ⟨hk, hb⟩
              have : vheldOk (m + 1) V1 vh = true := by
                cases hc : vheldOk (m + 1) V1 vh with
                | true => rfl
                | false => exact absurd ⟨hk, hc⟩ hok
              rw [hh1.ok h3 (m + 1) this] at hb
              cases hb
      · rename_i hwant
        obtain ⟨k2, as', H2, Φ2, ρ2, g1, g2, g3, g4⟩ := ih _ _ _ _ _ _ e Φ ρ H _ _ inv (put_vsim h o.dst dvr_undef) hh
        exact ⟨k2, as', H2, Φ2, ρ2, by simp only [adraw, ho, if_neg hwant]; exact g1, g2, g3, g4⟩
end
end Go.Abs
/- The machine of values: code and calls, beside the abstract machine. -/
namespace Go.Abs
open Go Go.RowKit
set_option linter.unusedVariables false
set_option linter.unusedSimpArgs false

section
variable {P : Program} {aorc : Orc}
theorem vcode_sim {tab : FuncId → Mode} {run : VCall} (hs : SimV P aorc run) (fuel : Nat) : ∀ (c : Code), codeOk c = true → ∀ (ts : Array DV) (V : VHeap) (ex : Ex) (ts' : Array DV) (V' : VHeap), vcode P tab run fuel c ts V = some (ex, ts', V') →
    ∀ Φ ρ H as, VInv Φ ρ V H → DVRs Φ ρ ts.toList as.toList → ∃ k as' H' Φ' ρ', acode P (arun P aorc k) k c as H = some (ex, as', H') ∧ DVRs Φ' ρ' ts'.toList as'.toList ∧ VInv Φ' ρ' V' H' ∧ Tr Φ ρ V H Φ' ρ' V' H' := by
  intro c
  induction c with
  | skip => intro hc ts V ex ts' V' e Φ ρ H as inv h; simp only [vcode] at e; injection e with e; injection e with e1 e2; injection e2 with e2 e3; subst e1; subst e2; subst e3; exact ⟨0, as, H, Φ, ρ, rfl, h, inv, Tr.refl _ _ _ _⟩
  | label l => intro hc ts V ex ts' V' e Φ ρ H as inv h; simp only [vcode] at e; injection e with e; injection e with e1 e2; injection e2 with e2 e3; subst e1; subst e2; subst e3; exact ⟨0, as, H, Φ, ρ, rfl, h, inv, Tr.refl _ _ _ _⟩
  | exit id => intro hc ts V ex ts' V' e Φ ρ H as inv h; simp only [vcode] at e; injection e with e; injection e with e1 e2; injection e2 with e2 e3; subst e1; subst e2; subst e3; exact ⟨0, as, H, Φ, ρ, rfl, h, inv, Tr.refl _ _ _ _⟩
  | ret => intro hc ts V ex ts' V' e Φ ρ H as inv h; simp only [vcode] at e; injection e with e; injection e with e1 e2; injection e2 with e2 e3; subst e1; subst e2; subst e3; exact ⟨0, as, H, Φ, ρ, rfl, h, inv, Tr.refl _ _ _ _⟩
  | region id ops draw =>
    intro hc ts V ex ts' V' e Φ ρ H as inv h
    simp only [vcode, Option.map_eq_some_iff] at e
    obtain ⟨⟨t1, V1⟩, e, e2⟩ := e
    injection e2 with q1 q2; injection q2 with q2 q3; subst q1; subst q2; subst q3
    simp only [codeOk, Bool.and_eq_true] at hc
    cases draw with
    | true =>
      simp only [if_true] at e
      obtain ⟨k, as', H', Φ', ρ', h1, h2, h3, h4⟩ := vdraw_sim hs hc.1 _ _ _ _ _ _ _ _ e Φ ρ H as [] inv h .nil
      exact ⟨k, as', H', Φ', ρ', by simp only [acode, if_true, h1, Option.map_some], h2, h3, h4⟩
    | false =>
      simp only [Bool.false_eq_true, if_false] at e
      obtain ⟨k, as', H', Φ', ρ', h1, h2, h3, h4⟩ := vops_sim hs hc.1 _ _ _ _ _ e Φ ρ H as inv h
      exact ⟨k, as', H', Φ', ρ', by simp only [acode, Bool.false_eq_true, if_false, h1, Option.map_some], h2, h3, h4⟩
  | seq a b iha ihb =>
    intro hc ts V ex ts' V' e Φ ρ H as inv h
    simp only [codeOk, Bool.and_eq_true] at hc
    simp only [vcode] at e
    cases ha : vcode P tab run fuel a ts V with
    | none => rw [ha] at e; cases e
    | some s =>
      obtain ⟨ex1, t1, V1⟩ := s
      rw [ha] at e
      obtain ⟨k1, as1, H1, Φ1, ρ1, h1, h2, h3, h4⟩ := iha hc.1 _ _ _ _ _ ha Φ ρ H as inv h
      cases ex1 with
      | normal =>
        simp only at e
        obtain ⟨k2, as2, H2, Φ2, ρ2, g1, g2, g3, g4⟩ := ihb hc.2 _ _ _ _ _ e Φ1 ρ1 H1 as1 h3 h2
        refine ⟨max k1 k2, as2, H2, Φ2, ρ2, ?_, g2, g3, h4.trans g4⟩
        simp only [acode, acode_up (Nat.le_max_left k1 k2) h1]
        exact acode_up (Nat.le_max_right k1 k2) g1
      | exit id =>
        simp only at e; injection e with e; injection e with e1 e2; injection e2 with e2 e3; subst e1; subst e2; subst e3
        exact ⟨k1, as1, H1, Φ1, ρ1, by simp only [acode, h1], h2, h3, h4⟩
      | ret =>
        simp only at e; injection e with e; injection e with e1 e2; injection e2 with e2 e3; subst e1; subst e2; subst e3
        exact ⟨k1, as1, H1, Φ1, ρ1, by simp only [acode, h1], h2, h3, h4⟩
  | cond q a b iha ihb =>
    intro hc ts V ex ts' V' e Φ ρ H as inv h
    simp only [codeOk, Bool.and_eq_true] at hc
    simp only [vcode] at e
    cases hq : vboolV (evalD ts q) with
    | none => rw [hq] at e; cases e
    | some x =>
      rw [hq] at e
      have hv : evalT as q = .bool x := by
        have := eval_vsim h q hc.1.1
        unfold vboolV at hq
        split at hq
        · rename_i hh; injection hq with hq; subst hq; rw [hh] at this; exact (dvr_v this).1
        · cases hq
      cases x with
      | true =>
        simp only [if_true] at e
        obtain ⟨k, as', H', Φ', ρ', h1, h2, h3, h4⟩ := iha hc.1.2 _ _ _ _ _ e Φ ρ H as inv h
        exact ⟨k, as', H', Φ', ρ', by simp only [acode, hv, if_true, h1], h2, h3, h4⟩
      | false =>
        simp only [Bool.false_eq_true, if_false] at e
        obtain ⟨k, as', H', Φ', ρ', h1, h2, h3, h4⟩ := ihb hc.2 _ _ _ _ _ e Φ ρ H as inv h
        exact ⟨k, as', H', Φ', ρ', by simp only [acode, hv, Bool.false_eq_true, if_false, h1], h2, h3, h4⟩
  | block id b ih =>
    intro hc ts V ex ts' V' e Φ ρ H as inv h
    simp only [codeOk] at hc
    simp only [vcode] at e
    cases ha : vcode P tab run fuel b ts V with
    | none => rw [ha] at e; cases e
    | some s =>
      obtain ⟨ex1, t1, V1⟩ := s
      rw [ha] at e
      obtain ⟨k1, as1, H1, Φ1, ρ1, h1, h2, h3, h4⟩ := ih hc _ _ _ _ _ ha Φ ρ H as inv h
      cases ex1 with
      | normal =>
        simp only at e; injection e with e; injection e with e1 e2; injection e2 with e2 e3; subst e1; subst e2; subst e3
        exact ⟨k1, as1, H1, Φ1, ρ1, by simp only [acode, h1], h2, h3, h4⟩
      | ret =>
        simp only at e; injection e with e; injection e with e1 e2; injection e2 with e2 e3; subst e1; subst e2; subst e3
        exact ⟨k1, as1, H1, Φ1, ρ1, by simp only [acode, h1], h2, h3, h4⟩
      | exit id' =>
        simp only at e
        split at e
        · rename_i hid
          injection e with e; injection e with e1 e2; injection e2 with e2 e3; subst e1; subst e2; subst e3
          exact ⟨k1, as1, H1, Φ1, ρ1, by simp only [acode, h1, if_pos hid], h2, h3, h4⟩
        · rename_i hid
          injection e with e; injection e with e1 e2; injection e2 with e2 e3; subst e1; subst e2; subst e3
          exact ⟨k1, as1, H1, Φ1, ρ1, by simp only [acode, h1, if_neg hid], h2, h3, h4⟩
  | loop b ih =>
    intro hc ts V ex ts' V' e Φ ρ H as inv h
    simp only [codeOk] at hc
    simp only [vcode] at e
    have go : ∀ n ts V ex ts' V', viter (vcode P tab run fuel b) n ts V = some (ex, ts', V') → ∀ Φ ρ H as, VInv Φ ρ V H → DVRs Φ ρ ts.toList as.toList →
        ∃ k m as' H' Φ' ρ', iter (acode P (arun P aorc k) k b) m as H = some (ex, as', H') ∧ DVRs Φ' ρ' ts'.toList as'.toList ∧ VInv Φ' ρ' V' H' ∧ Tr Φ ρ V H Φ' ρ' V' H' := by
      intro n
      induction n with
      | zero => intro ts V ex ts' V' e; cases e
      | succ n ihn =>
        intro ts V ex ts' V' e Φ ρ H as inv h
        simp only [viter] at e
        cases ha : vcode P tab run fuel b ts V with
        | none => rw [ha] at e; cases e
        | some s =>
          obtain ⟨ex1, t1, V1⟩ := s
          rw [ha] at e
          obtain ⟨k1, as1, H1, Φ1, ρ1, h1, h2, h3, h4⟩ := ih hc _ _ _ _ _ ha Φ ρ H as inv h
          cases ex1 with
          | normal =>
            simp only at e
            obtain ⟨k2, m, as2, H2, Φ2, ρ2, g1, g2, g3, g4⟩ := ihn _ _ _ _ _ e Φ1 ρ1 H1 as1 h3 h2
            refine ⟨max k1 k2, m + 1, as2, H2, Φ2, ρ2, ?_, g2, g3, h4.trans g4⟩
            simp only [iter, acode_up (Nat.le_max_left k1 k2) h1]
            exact iter_mono (fun t H r hr => acode_up (Nat.le_max_right k1 k2) hr) _ _ (Nat.le_refl _) _ _ _ g1
          | exit id =>
            simp only at e; injection e with e; injection e with e1 e2; injection e2 with e2 e3; subst e1; subst e2; subst e3
            exact ⟨k1, 1, as1, H1, Φ1, ρ1, by simp only [iter, h1], h2, h3, h4⟩
          | ret =>
            simp only at e; injection e with e; injection e with e1 e2; injection e2 with e2 e3; subst e1; subst e2; subst e3
            exact ⟨k1, 1, as1, H1, Φ1, ρ1, by simp only [iter, h1], h2, h3, h4⟩
    obtain ⟨k, m, as', H', Φ', ρ', h1, h2, h3, h4⟩ := go _ _ _ _ _ _ e Φ ρ H as inv h
    refine ⟨max k m, as', H', Φ', ρ', ?_, h2, h3, h4⟩
    simp only [acode]
    exact iter_mono (fun t H r hr => acode_up (Nat.le_max_left k m) hr) _ _ (Nat.le_max_right k m) _ _ _ h1
  | scope b ih =>
    intro hc ts V ex ts' V' e Φ ρ H as inv h
    simp only [codeOk] at hc
    simp only [vcode] at e
    obtain ⟨k, as', H', Φ', ρ', h1, h2, h3, h4⟩ := ih hc _ _ _ _ _ e Φ ρ H as inv h
    exact ⟨k, as', H', Φ', ρ', by simp only [acode]; exact h1, h2, h3, h4⟩
  | _ => intro hc ts V ex ts' V' e; simp [vcode] at e

theorem results_vsim {Φ : Phi} {ρ : Rn} {V : VHeap} {H : Heap} (inv : VInv Φ ρ V H) {ts : Array DV} {as : Array Value} (h : DVRs Φ ρ ts.toList as.toList) : ∀ (rs : List ResultVar) (vs : List DV), resultsD P rs ts V = some vs → ∃ ws, resultsV P rs as H = some ws ∧ DVRs Φ ρ vs ws := by
  intro rs
  induction rs with
  | nil => intro vs e; simp only [resultsD] at e; injection e with e; subst e; exact ⟨[], rfl, .nil⟩
  | cons r rest ih =>
    intro vs e
    simp only [resultsD] at e
    split at e
    · rename_i v vs' hv hvs
      injection e with e; subst e
      obtain ⟨ws, h1, h2⟩ := ih vs' hvs
      have : ∃ w, oneResult P as H r = some w ∧ DVR Φ ρ v w := by
        cases r with
        | tmp d => simp only [oneD] at hv; injection hv with hv; subst hv; exact ⟨_, rfl, getD_vsim h d⟩
        | cell a ty => simp only [oneD] at hv; exact load_vsim inv (getD_vsim h a) hv
      obtain ⟨w, h3, h4⟩ := this
      exact ⟨w :: ws, by simp only [resultsV, h3, h1], .cons _ _ _ _ h4 h2⟩
    · cases e
theorem pack_vsim {Φ : Phi} {ρ : Rn} {vs : List DV} {ws : List Value} (h : DVRs Φ ρ vs ws) : DVR Φ ρ (packD vs) (packV ws) := by
  cases h with
  | nil => exact .tuple _ _ .nil
  | cons a b l m h1 h2 =>
    cases h2 with
    | nil => exact h1
    | cons a' b' l' m' h3 h4 => exact .tuple _ _ (.cons _ _ _ _ h1 (.cons _ _ _ _ h3 h4))
theorem enter_vsim {Φ : Phi} {ρ : Rn} {fn : Func} {args : List DV} {args' : List Value} (h : DVRs Φ ρ args args') : DVRs Φ ρ (enterD fn args).toList (enterT fn ⟨args'⟩).toList := by
  unfold enterD enterT
  simp only [Array.toList_append, Array.toList_replicate]
  have hl := h.length_eq
  refine h.append ?_
  rw [show (⟨args'⟩ : Array Value).size = args.length from hl]
  generalize fn.ntmps - args.length = n
  induction n with
  | zero => exact .nil
  | succ n ih => rw [List.replicate_succ, List.replicate_succ]; exact .cons _ _ _ _ dvr_undef ih

theorem vbody_sim {tab : FuncId → Mode} {run : VCall} (hs : SimV P aorc run) {fuel : Nat} {mv : Bool} {fn : Func} (hc : callable fn = true) {args : List DV} {V V' : VHeap} {r : DV} (e : vbody P tab run fuel mv fn args V = some (r, V')) {Φ : Phi} {ρ : Rn} {H : Heap} {args' : List Value} (inv : VInv Φ ρ V H) (ha : DVRs Φ ρ args args') :
    ∃ k v H' Φ' ρ', abody P (arun P aorc k) k fn ⟨args'⟩ H = some (v, H') ∧ DVR Φ' ρ' r v ∧ VInv Φ' ρ' V' H' ∧ Tr Φ ρ V H Φ' ρ' V' H' := by
  unfold vbody at e
  cases hb : fn.body with
  | none => rw [hb] at e; cases e
  | some c =>
    rw [hb] at e
    simp only at e
    have hok : codeOk c = true := by unfold callable at hc; rw [hb] at hc; simp at hc; exact hc.2
    cases hx : vcode P tab run fuel c (enterD fn args) V with
    | none => rw [hx] at e; cases e
    | some s =>
      obtain ⟨ex, t, V1⟩ := s
      rw [hx] at e
      obtain ⟨k, as, H1, Φ1, ρ1, h1, h2, h3, h4⟩ := vcode_sim hs fuel c hok _ _ _ _ _ hx Φ ρ H _ inv (enter_vsim (fn := fn) ha)
      have fin : (resultsD P fn.results.toList t V1).bind (fun vs => (leaveD V mv vs V1).map fun r => (packD r.1, r.2)) = some (r, V') → (∃ vs, resultsV P fn.results.toList as H1 = some vs ∧ ∃ Φ' ρ', DVR Φ' ρ' r (packV vs) ∧ VInv Φ' ρ' V' H1 ∧ Tr Φ ρ V H Φ' ρ' V' H1) := by
        intro e
        simp only [Option.bind_eq_some_iff, Option.map_eq_some_iff] at e
        obtain ⟨vs, hvs, ⟨vs', V2⟩, hl, e⟩ := e
        injection e with e1 e2; subst e1; subst e2
        obtain ⟨ws, g1, g2⟩ := results_vsim h3 h2 _ _ hvs
        obtain ⟨Φ', ρ', q1, q2, q3⟩ := leave_sim inv h3 h4 g2 hl
        exact ⟨ws, g1, Φ', ρ', pack_vsim q3, q1, q2⟩
      cases ex with
      | exit id => simp at e
      | normal =>
        obtain ⟨vs, g1, Φ', ρ', g2, g3, g4⟩ := fin e
        exact ⟨k, packV vs, H1, Φ', ρ', by simp only [abody, hb, h1, g1, Option.map_some], g2, g3, g4⟩
      | ret =>
        obtain ⟨vs, g1, Φ', ρ', g2, g3, g4⟩ := fin e
        exact ⟨k, packV vs, H1, Φ', ρ', by simp only [abody, hb, h1, g1, Option.map_some], g2, g3, g4⟩

/-- WHAT THE MACHINE OF VALUES RUNS TO, THE ABSTRACT MACHINE RUNS TO. -/
theorem vrun_sim (tab : Tab) {vorc : VOrc} (ho : VOrcOk P aorc vorc) : ∀ k, SimV P aorc (vrun P tab vorc k) := by
  intro k
  induction k with
  | zero => intro f mv args V r V' e; cases e
  | succ k ih =>
    intro f mv args V r V' e Φ ρ H args' inv ha
    simp only [vrun] at e
    cases hf : vask vorc f mv args V with
    | some g =>
      rw [hf] at e
      simp only at e
      subst e
      obtain ⟨k', v, H', Φ', ρ', h1, h2, h3, h4⟩ := ho.2 f mv args V r V' hf Φ ρ H args' inv ha
      exact ⟨k', v, H', Φ', ρ', h1, h2, h3, h4⟩
    | none =>
      rw [hf] at e
      simp only at e
      cases hp : P.funcs[f]? with
      | none => rw [hp] at e; cases e
      | some fn =>
        rw [hp] at e
        simp only at e
        split at e
        · rename_i hc
          obtain ⟨k', v, H', Φ', ρ', h1, h2, h3, h4⟩ := vbody_sim ih hc e inv ha
          refine ⟨k' + 1, v, H', Φ', ρ', ?_, h2, h3, h4⟩
          simp only [arun, ho.1 f mv args V hf, hp, if_pos hc]
          exact h1
        · cases e
end
end Go.Abs
/- The machine of values: what must hold ahead of an operation. -/
namespace Go.Abs
open Go Go.RowKit
set_option linter.unusedVariables false
set_option linter.unusedSimpArgs false

/-- A call ends, and what it gives is so: its arguments as they stand. -/
def VEv (P : Program) (tab : Tab) (orc : VOrc) (f : FuncId) (mv : Bool) (args : List DV) (H : VHeap) (Q : DV → VHeap → Prop) : Prop := ∃ k v H', vrun P tab orc k f mv args H = some (v, H') ∧ Q v H'
/-- A call ends, and what it gives is so: its arguments by value. -/
def VCl (P : Program) (tab : Tab) (orc : VOrc) (self f : FuncId) (args : List DV) (H : VHeap) (Q : DV → VHeap → Prop) : Prop := ∃ k v H', vcall (tab self) (vrun P tab orc k) f args H = some (v, H') ∧ Q v H'
theorem VEv.mono {P : Program} {tab : Tab} {orc : VOrc} {f : FuncId} {mv : Bool} {args : List DV} {H : VHeap} {Q Q' : DV → VHeap → Prop} (h : VEv P tab orc f mv args H Q) (hq : ∀ v H', Q v H' → Q' v H') : VEv P tab orc f mv args H Q' := by
  obtain ⟨k, v, H', h1, h2⟩ := h
  exact ⟨k, v, H', h1, hq _ _ h2⟩
theorem VCl.mono {P : Program} {tab : Tab} {orc : VOrc} {self f : FuncId} {args : List DV} {H : VHeap} {Q Q' : DV → VHeap → Prop} (h : VCl P tab orc self f args H Q) (hq : ∀ v H', Q v H' → Q' v H') : VCl P tab orc self f args H Q' := by
  obtain ⟨k, v, H', h1, h2⟩ := h
  exact ⟨k, v, H', h1, hq _ _ h2⟩
/-- What a call gives, by value or not. -/
def unlockK (H : VHeap) (Q : DV → VHeap → Prop) (r : DV) (H' : VHeap) : Prop := Q r (if (flatD r && sameVers H H' && decide (H'.length = H.length)) = true then H else H')
theorem VCl_of {P : Program} {tab : Tab} {orc : VOrc} {self f : FuncId} {args args' : List DV} {H : VHeap} {Q : DV → VHeap → Prop} (hm : (tab self f).refs = false) (ha : mapO (fz H 0 false fzN) args = some args') (h : VEv P tab orc f (tab self f).move args' (lockAll (args.flatMap (seen H 0 false fzN)) H) (unlockK H Q)) : VCl P tab orc self f args H Q := by
  obtain ⟨k, v, H', h1, h2⟩ := h
  refine ⟨k, v, _, ?_, h2⟩
  unfold vcall
  rw [hm]
  simp only [Bool.false_eq_true, if_false, ha, h1]
  split <;> rfl
theorem VCl_refs {P : Program} {tab : Tab} {orc : VOrc} {self f : FuncId} {args : List DV} {H : VHeap} {Q : DV → VHeap → Prop} (hm : (tab self f).refs = true) (h : VEv P tab orc f (tab self f).move args H Q) : VCl P tab orc self f args H Q := by
  obtain ⟨k, v, H', h1, h2⟩ := h
  exact ⟨k, v, H', by unfold vcall; rw [hm]; simpa using h1, h2⟩

def VWop (P : Program) (tab : Tab) (orc : VOrc) (self : FuncId) (ev : Operand → DV) (o : Oper) (H : VHeap) (K : DV → VHeap → Prop) : Prop :=
  match o.op with
  | .move x | .assign x => K (ev x) H
  | .pick c a b => obind (vboolV (ev c)) fun t => K (if t then ev a else ev b) H
  | .alloc elem => obind (zeroT P elem) fun z => K (.ptr H.length 0 0) (H ++ [.cells (zD z) .fix false 0 0])
  | .box elem x => K (.ptr H.length 0 0) (H ++ [.cells (vcells (ev x)) .fix false 0 0])
  | .load t a => obind (vload P t (ev a) H) fun v => K v H
  | .store t a x => obind (vstore P t (ev a) (ev x) H) fun H' => K undefD H'
  | .build t parts => obind (vbuild P t ((parts.map fun (i, x) => (i, ev x)).toList)) fun c => K (.agg c) H
  | .buildSlice t len parts => obind (vbuildS P t len ((parts.map fun (i, x) => (i, ev x)).toList)) fun c => K (.slc H.length 0 0 len len c.2) (H ++ [.cells c.1 .fix false 0 0])
  | .nilCheck x => obind (vnonNil (ev x)) fun v => K v H
  | .binOp op t x y _ => obind (vbin P op t x y (ev x) (ev y)) fun v => K v H
  | .unOp op _ x => obind (vun P op (ev x)) fun v => K v H
  | .convert src dst x => obind (vconvert P src dst (ev x) H) fun v => K v H
  | .makeInterface t x => obind (vifaceOf P t (ev x)) fun v => K v H
  | .makeFunc fn first captured => match fn with
    | .func f => K (.func f (first.toList.map ev) (captured.toList.map ev)) H
    | _ => False
  | .makeMap t r => obind (vmapOk P t (r.map ev)) fun _ => K (.map H.length) (H ++ [.map [] 0])
  | .makeSlice t l c => obind (vmakeS P t (ev l) (ev c)) fun s => K (.slc H.length 0 0 s.2.1 s.2.2.1 s.2.2.2) (H ++ [.cells s.1 .fix false 0 0])
  | .slice t x lo hi mx => obind (vslice P t (ev x) (lo.map ev) (hi.map ev) (mx.map ev) H) fun v => K v H
  | .fieldAddr s x f => obind (vfieldAddr P s (ev x) f) fun v => K v H
  | .field t x f => obind (vfield P t (ev x) f) fun v => K v H
  | .indexAddr t x ix => obind (vindexAddr P t (ev x) (ev ix)) fun v => K v H
  | .index t x ix => obind (vindex P t (ev x) (ev ix)) fun v => K v H
  | .extract x ix => obind (vtupleV (ev x)) fun vs => obind (vs[ix]?) fun v => K v H
  | .lookup t x k ok => obind (vlookup P t (ev x) (ev k) ok H) fun v => K v H
  | .mapUpdate t m k x | .insert t m k x => obind (vupdate P t (ev m) (ev k) (ev x) H) fun H' => K undefD H'
  | .call c =>
    match c.callee with
    | .builtin .len => obind (vlen1 P (c.args.toList.map ev) c.argTypes.toList H) fun v => K v H
    | .builtin .min => obind (vmin P c.argTypes o.type (c.args.toList.map ev)) fun v => K v H
    | .builtin .max => obind (vmax P c.argTypes o.type (c.args.toList.map ev)) fun v => K v H
    | .builtin .append => obind (vappend P c.argTypes (c.args.toList.map ev) H) fun r => K r.1 r.2
    | .builtin .copy => obind (vcopy P c.argTypes (c.args.toList.map ev) H) fun r => K r.1 r.2
    | .builtin _ => False
    | .value f => obind (vfuncV (ev f)) fun g => VCl P tab orc self g.1 ((g.2.1 ++ c.args.toList.map ev) ++ g.2.2) H K
    | .invoke r name => obind (vifaceV (ev r)) fun tv => obind (methodT P tv.1 name) fun f => VCl P tab orc self f (tv.2 :: c.args.toList.map ev) H K
  | _ => False

theorem vstep_mono' {P : Program} {tab : Tab} {orc : VOrc} {self : FuncId} {k k' : Nat} (h : k ≤ k') {ev : Operand → DV} {o : Oper} {H : VHeap} {r : DV × VHeap} (hs : vstep P (tab self) (vrun P tab orc k) ev o H = some r) : vstep P (tab self) (vrun P tab orc k') ev o H = some r :=
  vstep_mono (vrun_mono P tab orc k k' h) hs
theorem vops_up {P : Program} {tab : Tab} {orc : VOrc} {self : FuncId} {k k' : Nat} (h : k ≤ k') {ops : Array Oper} {l : List Nat} {t : Array DV} {H : VHeap} {r : Array DV × VHeap} (hr : vops P (tab self) (vrun P tab orc k) ops l t H = some r) : vops P (tab self) (vrun P tab orc k') ops l t H = some r :=
  vops_mono (vrun_mono P tab orc k k' h) l t H r hr
theorem vdraw_up {P : Program} {tab : Tab} {orc : VOrc} {self : FuncId} {k k' : Nat} (h : k ≤ k') {ops : Array Oper} {up : Nat → Nat} {l : List Nat} {m : Nat} {hs : List VHeld} {t : Array DV} {H : VHeap} {r : Array DV × VHeap} (hr : vdraw P (tab self) (vrun P tab orc k) ops up l m hs t H = some r) : vdraw P (tab self) (vrun P tab orc k') ops up l m hs t H = some r :=
  vdraw_mono (vrun_mono P tab orc k k' h) l m hs t H r hr
theorem vcode_up {P : Program} {tab : Tab} {orc : VOrc} {self : FuncId} {k k' : Nat} (h : k ≤ k') {c : Code} {t : Array DV} {H : VHeap} {r : Ex × Array DV × VHeap} (hr : vcode P (tab self) (vrun P tab orc k) k c t H = some r) : vcode P (tab self) (vrun P tab orc k') k' c t H = some r :=
  vcode_mono (vrun_mono P tab orc k k' h) h c t H r hr

theorem VWop_sound {P : Program} {tab : Tab} {orc : VOrc} {self : FuncId} {ev : Operand → DV} {o : Oper} {H : VHeap} {K : DV → VHeap → Prop} (h : VWop P tab orc self ev o H K) : ∃ k v H', vstep P (tab self) (vrun P tab orc k) ev o H = some (v, H') ∧ K v H' := by
  have val : ∀ v H', vop P ev o H = some (.val v H') → K v H' → ∃ k v H', vstep P (tab self) (vrun P tab orc k) ev o H = some (v, H') ∧ K v H' := by
    intro v H' h1 h2
    exact ⟨0, v, H', by unfold vstep; rw [h1], h2⟩
  have cal : ∀ f args, vop P ev o H = some (.call f args) → VCl P tab orc self f args H K → ∃ k v H', vstep P (tab self) (vrun P tab orc k) ev o H = some (v, H') ∧ K v H' := by
    intro f args h1 ⟨k, v, H', h2, h3⟩
    exact ⟨k, v, H', by unfold vstep; rw [h1]; exact h2, h3⟩
  obtain ⟨dst, op, type, pos, after, guard⟩ := o
  cases op <;> simp only [VWop] at h
  case move x => exact val _ _ (by simp only [vop]) h
  case assign x => exact val _ _ (by simp only [vop]) h
  case box elem x => exact val _ _ (by simp only [vop]) h
  case makeFunc fn first captured =>
    cases fn <;> simp only at h
    exact val _ _ (by simp only [vop]) h
  case extract x ix =>
    obtain ⟨vs, h1, h2⟩ := obind_elim h
    obtain ⟨z, h3, h4⟩ := obind_elim h2
    exact val _ _ (by simp only [vop, h1, h3, Option.bind_some, Option.map_some]) h4
  case call c =>
    obtain ⟨callee, args, ts⟩ := c
    cases callee with
    | value f =>
      obtain ⟨⟨g, a, b⟩, h1, h2⟩ := obind_elim h
      exact cal _ _ (by simp only [vop, h1, Option.map_some]) h2
    | invoke r name =>
      obtain ⟨⟨t, v⟩, h1, h2⟩ := obind_elim h
      obtain ⟨f, h3, h4⟩ := obind_elim h2
      exact cal _ _ (by simp only [vop, h1, h3, Option.bind_some, Option.map_some]) h4
    | builtin b =>
      cases b <;> simp only at h
      all_goals first
        | exact h.elim
        | (obtain ⟨z, h1, h2⟩ := obind_elim h; exact val _ _ (by simp only [vop, h1, Option.map_some]) h2)
  all_goals first
    | exact h.elim
    | (obtain ⟨z, h1, h2⟩ := obind_elim h; exact val _ _ (by simp only [vop, h1, Option.map_some]; rfl) h2)
    | (obtain ⟨z, h1, h2⟩ := obind_elim h; exact val _ _ (by simp only [vop, h1, Option.map_some]) h2)
theorem VWop_mono {P : Program} {tab : Tab} {orc : VOrc} {self : FuncId} {ev : Operand → DV} {o : Oper} {H : VHeap} {K K' : DV → VHeap → Prop} (h : VWop P tab orc self ev o H K) (hk : ∀ v H', K v H' → K' v H') : VWop P tab orc self ev o H K' := by
  obtain ⟨dst, op, type, pos, after, guard⟩ := o
  cases op <;> simp only [VWop] at h ⊢
  case call c =>
    obtain ⟨callee, args, ts⟩ := c
    cases callee with
    | value f => exact obind_mono h fun g hg => hg.mono hk
    | invoke r name => exact obind_mono h fun g hg => obind_mono hg fun f hf => hf.mono hk
    | builtin b =>
      cases b <;> simp only at h ⊢ <;> first
        | exact h
        | exact obind_mono h fun _ hh => hk _ _ hh
  case makeFunc fn first captured => cases fn <;> simp only at h ⊢ <;> exact hk _ _ h
  case extract x ix => exact obind_mono h fun _ hh => obind_mono hh fun _ hhh => hk _ _ hhh
  all_goals first
    | exact hk _ _ h
    | exact obind_mono h fun _ hh => hk _ _ hh
    | exact h
end Go.Abs
/- The machine of values: what must hold ahead of code. -/
namespace Go.Abs
open Go Go.RowKit
set_option linter.unusedVariables false
set_option linter.unusedSimpArgs false

def setBD (ts : Array DV) (d : Tmp) (b : Bool) : Array DV := ts.setIfInBounds d (vbool b)
def condD (v : DV) (A B : Prop) : Prop :=
  match v with
  | .d (.v (.bool b)) => ifB b A B
  | _ => False
theorem condD_elim {v : DV} {A B : Prop} (h : condD v A B) : ∃ b, v = .d (.v (.bool b)) ∧ (b = true → A) ∧ (b = false → B) := by
  unfold condD at h
  split at h
  · rename_i b; exact ⟨b, rfl, ifB_iff.1 h⟩
  · exact h.elim
theorem condD_mono {v : DV} {A B A' B' : Prop} (h : condD v A B) (ha : A → A') (hb : B → B') : condD v A' B' := by
  obtain ⟨b, rfl, h1, h2⟩ := condD_elim h
  exact ifB_iff.2 ⟨fun e => ha (h1 e), fun e => hb (h2 e)⟩

/-- A guard decided: known already, or both ways. -/
def VWg (ops : Array Oper) (g : Nat) (want : Bool) (kn : List (Nat × Bool)) (sk : List Nat) (ts : Array DV) (run skip : List (Nat × Bool) → Array DV → Prop) : Prop :=
  if sk.contains g then skip kn ts else
  match kn.lookup g with
  | some b => if b = want then run kn ts else skip kn ts
  | none => match dstOf ops g with
    | none => False
    | some d => condD (ts.getD d undefD) (if want then run ((g, true) :: kn) (setBD ts d true) else skip ((g, true) :: kn) (setBD ts d true)) (if want then skip ((g, false) :: kn) (setBD ts d false) else run ((g, false) :: kn) (setBD ts d false))

def VWo (P : Program) (tab : Tab) (orc : VOrc) (self : FuncId) (ops : Array Oper) : List Oper → Nat → List (Nat × Bool) → List Nat → Array DV → VHeap → (Array DV → VHeap → Prop) → Prop
  | [], _, _, _, ts, H, K => K ts H
  | o :: rest, i, kn, sk, ts, H, K =>
    match o.guard with
    | none => VWop P tab orc self (evalD ts) o H fun v H' => VWo P tab orc self ops rest (i + 1) (cleanK ops o.dst kn) (cleanS ops o.dst sk) (putD ts o.dst v) H' K
    | some (g, want) => VWg ops g want kn sk ts
        (fun kn ts => VWop P tab orc self (evalD ts) o H fun v H' => VWo P tab orc self ops rest (i + 1) (cleanK ops o.dst kn) (cleanS ops o.dst sk) (putD ts o.dst v) H' K)
        (fun kn ts => VWo P tab orc self ops rest (i + 1) (cleanK ops o.dst kn) (i :: cleanS ops o.dst sk) (putD ts o.dst undefD) H K)

/-- What is held is as it was read. -/
def heldVP (m : Nat) (H : VHeap) : List VHeld → Prop
  | [] => True
  | h :: r => if h.upto < m then heldVP m H r else depOk h.dep H = true ∧ heldVP m H r

def VWd (P : Program) (tab : Tab) (orc : VOrc) (self : FuncId) (ops : Array Oper) (up : List Nat) : List Nat → Nat → List VHeld → List (Nat × Bool) → List Nat → Array DV → VHeap → (Array DV → VHeap → Prop) → Prop
  | [], _, _, _, _, ts, H, K => K ts H
  | i :: rest, m, hs, kn, sk, ts, H, K =>
    match ops[i]? with
    | none => False
    | some o =>
      let run := fun (kn : List (Nat × Bool)) (ts : Array DV) => VWop P tab orc self (evalD ts) o H fun v H' =>
        match kindOf o.op with
        | .eff => heldVP (m + 1) H' hs ∧ VWd P tab orc self ops up rest (m + 1) hs (cleanK ops o.dst kn) (cleanS ops o.dst sk) (putD ts o.dst v) H' K
        | .read => VWd P tab orc self ops up rest m (if up.getD i 0 = m then hs else ⟨up.getD i 0, vdep (evalD ts) o H⟩ :: hs) (cleanK ops o.dst kn) (cleanS ops o.dst sk) (putD ts o.dst v) H' K
        | _ => VWd P tab orc self ops up rest m hs (cleanK ops o.dst kn) (cleanS ops o.dst sk) (putD ts o.dst v) H' K
      match o.guard with
      | none => run kn ts
      | some (g, want) => VWg ops g want kn sk ts run
          (fun kn ts => VWd P tab orc self ops up rest (match kindOf o.op with | .eff => m + 1 | _ => m) hs (cleanK ops o.dst kn) (i :: cleanS ops o.dst sk) (putD ts o.dst undefD) H K)

def VWr (f : Array DV → VHeap → (Ex → Array DV → VHeap → Prop) → Prop) : Nat → Array DV → VHeap → (Ex → Array DV → VHeap → Prop) → Prop
  | 0, _, _, _ => False
  | n + 1, ts, H, K => f ts H fun ex ts' H' => match ex with
    | .normal => VWr f n ts' H' K
    | .exit id => K (.exit id) ts' H'
    | .ret => K .ret ts' H'

def seqD (next : Array DV → VHeap → (Ex → Array DV → VHeap → Prop) → Prop) (K : Ex → Array DV → VHeap → Prop) : Ex → Array DV → VHeap → Prop
  | .normal, ts, H => next ts H K
  | .exit id, ts, H => K (.exit id) ts H
  | .ret, ts, H => K .ret ts H
def blockD (id : Nat) (K : Ex → Array DV → VHeap → Prop) : Ex → Array DV → VHeap → Prop
  | .normal, ts, H => K .normal ts H
  | .exit id', ts, H => if id' = id then K .normal ts H else K (.exit id') ts H
  | .ret, ts, H => K .ret ts H
def VWc (P : Program) (tab : Tab) (orc : VOrc) (self : FuncId) : Code → Array DV → VHeap → (Ex → Array DV → VHeap → Prop) → Prop
  | .skip, ts, H, K | .label _, ts, H, K => K .normal ts H
  | .region _ ops draw, ts, H, K => match draw with
    | true => VWd P tab orc self ops (uptoL ops) (canon ops) 0 [] [] [] ts H fun ts' H' => K .normal ts' H'
    | false => VWo P tab orc self ops ops.toList 0 [] [] ts H fun ts' H' => K .normal ts' H'
  | .seq a b, ts, H, K => VWc P tab orc self a ts H (seqD (fun t h k => VWc P tab orc self b t h k) K)
  | .cond c a b, ts, H, K => condD (evalD ts c) (VWc P tab orc self a ts H K) (VWc P tab orc self b ts H K)
  | .block id b, ts, H, K => VWc P tab orc self b ts H (blockD id K)
  | .loop b, ts, H, K => ∃ n, VWr (fun t h k => VWc P tab orc self b t h k) n ts H K
  | .scope b, ts, H, K => VWc P tab orc self b ts H K
  | .exit id, ts, H, K => K (.exit id) ts H
  | .ret, ts, H, K => K .ret ts H
  | _, _, _, _ => False

def VWloop (P : Program) (tab : Tab) (orc : VOrc) (self : FuncId) (b : Code) (ts : Array DV) (H : VHeap) (K : Ex → Array DV → VHeap → Prop) : Prop := ∃ n, VWr (fun t h k => VWc P tab orc self b t h k) n ts H K

/-! Sound -/
def KnowsD (ops : Array Oper) (kn : List (Nat × Bool)) (sk : List Nat) (ts : Array DV) : Prop :=
  (∀ g b, (g, b) ∈ kn → yieldD ops ts g = some b) ∧ (∀ g, g ∈ sk → yieldD ops ts g = none)

theorem yieldD_put {ops : Array Oper} {ts : Array DV} {d : Option Tmp} {v : DV} {g : Nat} (h : dstOf ops g ≠ d) : yieldD ops (putD ts d v) g = yieldD ops ts g := by
  unfold yieldD
  cases hd : (ops[g]?).bind (·.dst) with
  | none => rfl
  | some t =>
    simp only [Option.bind_some]
    cases d with
    | none => rfl
    | some d =>
      have : d ≠ t := fun e => h (by unfold dstOf; rw [hd, e])
      simp only [putD, Array.getElem?_setIfInBounds_ne this]
theorem KnowsD.put {ops : Array Oper} {kn : List (Nat × Bool)} {sk : List Nat} {ts : Array DV} (h : KnowsD ops kn sk ts) (d : Option Tmp) (v : DV) : KnowsD ops (cleanK ops d kn) (cleanS ops d sk) (putD ts d v) := by
  refine ⟨fun g b hg => ?_, fun g hg => ?_⟩
  · unfold cleanK at hg
    rw [List.mem_filter] at hg
    rw [yieldD_put (by simpa using hg.2)]
    exact h.1 g b hg.1
  · unfold cleanS at hg
    rw [List.mem_filter] at hg
    rw [yieldD_put (by simpa using hg.2)]
    exact h.2 g hg.1
theorem KnowsD.skip {ops : Array Oper} {kn : List (Nat × Bool)} {sk : List Nat} {ts : Array DV} (h : KnowsD ops kn sk ts) {i : Nat} {o : Oper} (ho : ops[i]? = some o) : KnowsD ops (cleanK ops o.dst kn) (i :: cleanS ops o.dst sk) (putD ts o.dst undefD) := by
  obtain ⟨h1, h2⟩ := h.put o.dst undefD
  refine ⟨h1, fun g hg => ?_⟩
  rcases List.mem_cons.1 hg with e | hg
  · subst e
    unfold yieldD
    rw [ho]
    simp only [Option.bind_some]
    cases hd : o.dst with
    | none => rfl
    | some d =>
      simp only [Option.bind_some, putD]
      by_cases hlt : d < ts.size
      · rw [Array.getElem?_setIfInBounds_self_of_lt hlt]; rfl
      · rw [Array.getElem?_eq_none (by simp; exact Nat.le_of_not_lt hlt)]
  · exact h2 g hg
theorem guardD_sound {ops : Array Oper} {g : Nat} {want : Bool} {kn : List (Nat × Bool)} {sk : List Nat} {ts : Array DV} {run skip : List (Nat × Bool) → Array DV → Prop} (hk : KnowsD ops kn sk ts) (h : VWg ops g want kn sk ts run skip) :
    ∃ kn', KnowsD ops kn' sk ts ∧ ((yieldD ops ts g == some want) = true ∧ run kn' ts ∨ (yieldD ops ts g == some want) = false ∧ skip kn' ts) := by
  unfold VWg at h
  split at h
  · rename_i e
    refine ⟨kn, hk, .inr ⟨?_, h⟩⟩
    rw [hk.2 g (by simpa using e)]; rfl
  · split at h
    · rename_i b hb
      have := hk.1 g b (lookup_mem hb)
      refine ⟨kn, hk, ?_⟩
      split at h
      · rename_i e; subst e; exact .inl ⟨by rw [this]; simp, h⟩
      · rename_i e; exact .inr ⟨by rw [this]; simp [e], h⟩
    · split at h
      · exact h.elim
      · rename_i d hd
        obtain ⟨b, hv, h1, h2⟩ := condD_elim h
        have hlt : ts[d]? = some (vbool b) := by
          rw [Array.getD_eq_getD_getElem?] at hv
          cases hx : ts[d]? with
          | none => rw [hx] at hv; cases hv
          | some y => rw [hx] at hv; simp only [Option.getD_some] at hv; rw [hv]; rfl
        have hset : setBD ts d b = ts := by
          unfold setBD
          apply Array.ext_getElem?
          intro j
          by_cases e : d = j
          · subst e
            obtain ⟨hl, _⟩ := Array.getElem?_eq_some_iff.1 hlt
            rw [Array.getElem?_setIfInBounds_self_of_lt hl, hlt]
          · rw [Array.getElem?_setIfInBounds_ne e]
        have hy : yieldD ops ts g = some b := by
          unfold yieldD
          unfold dstOf at hd
          rw [hd]
          simp only [Option.bind_some, hlt]; rfl
        refine ⟨(g, b) :: kn, ⟨fun g' b' hm => ?_, hk.2⟩, ?_⟩
        · rcases List.mem_cons.1 hm with e | hm
          · injection e with e1 e2; subst e1; subst e2; exact hy
          · exact hk.1 g' b' hm
        · rw [hy]
          cases b with
          | true =>
            have := h1 rfl
            rw [hset] at this
            cases want with
            | true => exact .inl ⟨rfl, this⟩
            | false => exact .inr ⟨rfl, this⟩
          | false =>
            have := h2 rfl
            rw [hset] at this
            cases want with
            | true => exact .inr ⟨rfl, this⟩
            | false => exact .inl ⟨rfl, this⟩

theorem VWo_sound {P : Program} {tab : Tab} {orc : VOrc} {self : FuncId} {ops : Array Oper} : ∀ (l : List Oper) (i : Nat) (kn : List (Nat × Bool)) (sk : List Nat) (ts : Array DV) (H : VHeap) (K : Array DV → VHeap → Prop), (∀ j, j < l.length → ops[i + j]? = l[j]?) → KnowsD ops kn sk ts → VWo P tab orc self ops l i kn sk ts H K →
    ∃ k ts' H', vops P (tab self) (vrun P tab orc k) ops (List.range' i l.length) ts H = some (ts', H') ∧ K ts' H' := by
  intro l
  induction l with
  | nil => intro i kn sk ts H K _ _ h; exact ⟨0, ts, H, by simp [vops], h⟩
  | cons o rest ih =>
    intro i kn sk ts H K hops hk h
    have ho : ops[i]? = some o := by simpa using hops 0 (by simp)
    have hrest : ∀ j, j < rest.length → ops[i + 1 + j]? = rest[j]? := fun j hj => by
      have := hops (j + 1) (by simp; omega)
      rw [show i + (j + 1) = i + 1 + j by omega] at this
      simpa using this
    have runs : ∀ kn, KnowsD ops kn sk ts → Region.wanted o (yieldD ops ts) = true → (VWop P tab orc self (evalD ts) o H fun v H' => VWo P tab orc self ops rest (i + 1) (cleanK ops o.dst kn) (cleanS ops o.dst sk) (putD ts o.dst v) H' K) →
        ∃ k ts' H', vops P (tab self) (vrun P tab orc k) ops (List.range' i (o :: rest).length) ts H = some (ts', H') ∧ K ts' H' := by
      intro kn hk hw h
      obtain ⟨k1, v, H1, h1, h2⟩ := VWop_sound h
      obtain ⟨k2, ts', H', h3, h4⟩ := ih _ _ _ _ _ _ hrest (hk.put o.dst v) h2
      refine ⟨max k1 k2, ts', H', ?_, h4⟩
      rw [List.length_cons, List.range'_succ]
      simp only [vops, ho, if_pos hw, vstep_mono' (Nat.le_max_left k1 k2) h1]
      exact vops_up (Nat.le_max_right k1 k2) h3
    have skips : ∀ kn, KnowsD ops kn sk ts → Region.wanted o (yieldD ops ts) = false → VWo P tab orc self ops rest (i + 1) (cleanK ops o.dst kn) (i :: cleanS ops o.dst sk) (putD ts o.dst undefD) H K →
        ∃ k ts' H', vops P (tab self) (vrun P tab orc k) ops (List.range' i (o :: rest).length) ts H = some (ts', H') ∧ K ts' H' := by
      intro kn hk hw h
      obtain ⟨k2, ts', H', h3, h4⟩ := ih _ _ _ _ _ _ hrest (hk.skip ho) h
      refine ⟨k2, ts', H', ?_, h4⟩
      rw [List.length_cons, List.range'_succ]
      simp only [vops, ho, hw, Bool.false_eq_true, if_false]
      exact h3
    simp only [VWo] at h
    cases hg : o.guard with
    | none =>
      rw [hg] at h
      exact runs kn hk (by unfold Region.wanted; rw [hg]) h
    | some gw =>
      obtain ⟨g, want⟩ := gw
      rw [hg] at h
      obtain ⟨kn', hk', h | h⟩ := guardD_sound hk h
      · exact runs kn' hk' (by unfold Region.wanted; rw [hg]; exact h.1) h.2
      · exact skips kn' hk' (by unfold Region.wanted; rw [hg]; exact h.1) h.2

theorem heldVP_ok {m : Nat} {H : VHeap} : ∀ {l : List VHeld}, heldVP m H l → vheldOk m H l = true
  | [], _ => rfl
  | a :: l, h => by
    simp only [heldVP] at h
    simp only [vheldOk, List.all_cons, Bool.and_eq_true, Bool.or_eq_true, decide_eq_true_eq]
    split at h
    · rename_i e; exact ⟨.inl (by omega), heldVP_ok h⟩
    · exact ⟨.inr h.1, heldVP_ok h.2⟩

theorem VWd_sound {P : Program} {tab : Tab} {orc : VOrc} {self : FuncId} {ops : Array Oper} {up : List Nat} : ∀ (l : List Nat) (m : Nat) (hs : List VHeld) (kn : List (Nat × Bool)) (sk : List Nat) (ts : Array DV) (H : VHeap) (K : Array DV → VHeap → Prop), KnowsD ops kn sk ts → VWd P tab orc self ops up l m hs kn sk ts H K →
    ∃ k ts' H', vdraw P (tab self) (vrun P tab orc k) ops (fun i => up.getD i 0) l m hs ts H = some (ts', H') ∧ K ts' H' := by
  intro l
  induction l with
  | nil => intro m hs kn sk ts H K _ h; exact ⟨0, ts, H, by simp [vdraw], h⟩
  | cons i rest ih =>
    intro m hs kn sk ts H K hk h
    simp only [VWd] at h
    cases ho : ops[i]? with
    | none => simp only [ho] at h
    | some o =>
      simp only [ho] at h
      have runs : ∀ kn, KnowsD ops kn sk ts → Region.wanted o (yieldD ops ts) = true → (VWop P tab orc self (evalD ts) o H fun v H' =>
          match kindOf o.op with
          | .eff => heldVP (m + 1) H' hs ∧ VWd P tab orc self ops up rest (m + 1) hs (cleanK ops o.dst kn) (cleanS ops o.dst sk) (putD ts o.dst v) H' K
          | .read => VWd P tab orc self ops up rest m (if up.getD i 0 = m then hs else ⟨up.getD i 0, vdep (evalD ts) o H⟩ :: hs) (cleanK ops o.dst kn) (cleanS ops o.dst sk) (putD ts o.dst v) H' K
          | _ => VWd P tab orc self ops up rest m hs (cleanK ops o.dst kn) (cleanS ops o.dst sk) (putD ts o.dst v) H' K) →
          ∃ k ts' H', vdraw P (tab self) (vrun P tab orc k) ops (fun i => up.getD i 0) (i :: rest) m hs ts H = some (ts', H') ∧ K ts' H' := by
        intro kn hk hw h
        obtain ⟨k1, v, H1, h1, h2⟩ := VWop_sound h
        cases hkd : kindOf o.op with
        | eff =>
          rw [hkd] at h2
          obtain ⟨g1, g2⟩ := h2
          obtain ⟨k2, ts', H', h3, h4⟩ := ih _ _ _ _ _ _ _ (hk.put o.dst v) g2
          refine ⟨max k1 k2, ts', H', ?_, h4⟩
          have e1 : ¬ (kindOf o.op = .eff ∧ vheldOk (m + 1) H1 hs = false) := by rw [heldVP_ok g1]; simp
          have e2 : (if kindOf o.op = .eff then m + 1 else m) = m + 1 := by rw [hkd]; simp
          have e3 : ∀ X : VHeld, (if kindOf o.op = .read ∧ up.getD i 0 ≠ m then X :: hs else hs) = hs := fun X => by rw [hkd]; simp
          simp only [vdraw, ho, if_pos hw, vstep_mono' (Nat.le_max_left k1 k2) h1, if_neg e1, e2, e3]
          exact vdraw_up (Nat.le_max_right k1 k2) h3
        | read =>
          rw [hkd] at h2
          simp only at h2
          by_cases hu : up.getD i 0 = m
          · rw [if_pos hu] at h2
            obtain ⟨k2, ts', H', h3, h4⟩ := ih _ _ _ _ _ _ _ (hk.put o.dst v) h2
            refine ⟨max k1 k2, ts', H', ?_, h4⟩
            have e1 : ¬ (kindOf o.op = .eff ∧ vheldOk (m + 1) H1 hs = false) := by rw [hkd]; simp
            have e2 : (if kindOf o.op = .eff then m + 1 else m) = m := by rw [hkd]; simp
            have e3 : ∀ X : VHeld, (if kindOf o.op = .read ∧ up.getD i 0 ≠ m then X :: hs else hs) = hs := fun X => if_neg (fun h => h.2 hu)
            simp only [vdraw, ho, if_pos hw, vstep_mono' (Nat.le_max_left k1 k2) h1, if_neg e1, e2, e3]
            exact vdraw_up (Nat.le_max_right k1 k2) h3
          · rw [if_neg hu] at h2
            obtain ⟨k2, ts', H', h3, h4⟩ := ih _ _ _ _ _ _ _ (hk.put o.dst v) h2
            refine ⟨max k1 k2, ts', H', ?_, h4⟩
            have e1 : ¬ (kindOf o.op = .eff ∧ vheldOk (m + 1) H1 hs = false) := by rw [hkd]; simp
            have e2 : (if kindOf o.op = .eff then m + 1 else m) = m := by rw [hkd]; simp
            have e3 : ∀ X : VHeld, (if kindOf o.op = .read ∧ up.getD i 0 ≠ m then X :: hs else hs) = X :: hs := fun X => if_pos ⟨hkd, hu⟩
            simp only [vdraw, ho, if_pos hw, vstep_mono' (Nat.le_max_left k1 k2) h1, if_neg e1, e2, e3]
            exact vdraw_up (Nat.le_max_right k1 k2) h3
        | quiet =>
          rw [hkd] at h2
          obtain ⟨k2, ts', H', h3, h4⟩ := ih _ _ _ _ _ _ _ (hk.put o.dst v) h2
          refine ⟨max k1 k2, ts', H', ?_, h4⟩
          have e1 : ¬ (kindOf o.op = .eff ∧ vheldOk (m + 1) H1 hs = false) := by rw [hkd]; simp
          have e2 : (if kindOf o.op = .eff then m + 1 else m) = m := by rw [hkd]; simp
          have e3 : ∀ X : VHeld, (if kindOf o.op = .read ∧ up.getD i 0 ≠ m then X :: hs else hs) = hs := fun X => by rw [hkd]; simp
          simp only [vdraw, ho, if_pos hw, vstep_mono' (Nat.le_max_left k1 k2) h1, if_neg e1, e2, e3]
          exact vdraw_up (Nat.le_max_right k1 k2) h3
        | make =>
          rw [hkd] at h2
          obtain ⟨k2, ts', H', h3, h4⟩ := ih _ _ _ _ _ _ _ (hk.put o.dst v) h2
          refine ⟨max k1 k2, ts', H', ?_, h4⟩
          have e1 : ¬ (kindOf o.op = .eff ∧ vheldOk (m + 1) H1 hs = false) := by rw [hkd]; simp
          have e2 : (if kindOf o.op = .eff then m + 1 else m) = m := by rw [hkd]; simp
          have e3 : ∀ X : VHeld, (if kindOf o.op = .read ∧ up.getD i 0 ≠ m then X :: hs else hs) = hs := fun X => by rw [hkd]; simp
          simp only [vdraw, ho, if_pos hw, vstep_mono' (Nat.le_max_left k1 k2) h1, if_neg e1, e2, e3]
          exact vdraw_up (Nat.le_max_right k1 k2) h3
      have skips : ∀ kn, KnowsD ops kn sk ts → Region.wanted o (yieldD ops ts) = false → VWd P tab orc self ops up rest (match kindOf o.op with | .eff => m + 1 | _ => m) hs (cleanK ops o.dst kn) (i :: cleanS ops o.dst sk) (putD ts o.dst undefD) H K →
          ∃ k ts' H', vdraw P (tab self) (vrun P tab orc k) ops (fun i => up.getD i 0) (i :: rest) m hs ts H = some (ts', H') ∧ K ts' H' := by
        intro kn hk hw h
        obtain ⟨k2, ts', H', h3, h4⟩ := ih _ _ _ _ _ _ _ (hk.skip ho) h
        refine ⟨k2, ts', H', ?_, h4⟩
        simp only [vdraw, ho, hw, Bool.false_eq_true, if_false]
        have e : (if kindOf o.op = .eff then m + 1 else m) = (match kindOf o.op with | .eff => m + 1 | _ => m) := by
          cases kindOf o.op <;> rfl
        rw [e]; exact h3
      cases hg : o.guard with
      | none =>
        rw [hg] at h
        exact runs kn hk (by unfold Region.wanted; rw [hg]) h
      | some gw =>
        obtain ⟨g, want⟩ := gw
        rw [hg] at h
        obtain ⟨kn', hk', h | h⟩ := guardD_sound hk h
        · exact runs kn' hk' (by unfold Region.wanted; rw [hg]; exact h.1) h.2
        · exact skips kn' hk' (by unfold Region.wanted; rw [hg]; exact h.1) h.2

theorem VWc_sound {P : Program} {tab : Tab} {orc : VOrc} {self : FuncId} : ∀ (c : Code) (ts : Array DV) (H : VHeap) (K : Ex → Array DV → VHeap → Prop), VWc P tab orc self c ts H K → ∃ k ex ts' H', vcode P (tab self) (vrun P tab orc k) k c ts H = some (ex, ts', H') ∧ K ex ts' H' := by
  intro c
  induction c with
  | skip => intro ts H K h; exact ⟨0, .normal, ts, H, rfl, h⟩
  | label l => intro ts H K h; exact ⟨0, .normal, ts, H, rfl, h⟩
  | region id ops draw =>
    intro ts H K h
    cases draw with
    | true =>
      obtain ⟨k, ts', H', h1, h2⟩ := VWd_sound _ _ [] _ _ _ _ _ ⟨fun g b hg => (List.not_mem_nil hg).elim, fun g hg => (List.not_mem_nil hg).elim⟩ h
      exact ⟨k, .normal, ts', H', by simp only [vcode, if_true, h1, Option.map_some], h2⟩
    | false =>
      obtain ⟨k, ts', H', h1, h2⟩ := VWo_sound ops.toList 0 _ _ _ _ _ (fun j hj => by simp) ⟨fun g b hg => (List.not_mem_nil hg).elim, fun g hg => (List.not_mem_nil hg).elim⟩ h
      refine ⟨k, .normal, ts', H', ?_, h2⟩
      simp only [vcode, Bool.false_eq_true, if_false]
      rw [List.range_eq_range', show ops.size = ops.toList.length by simp, h1]; rfl
  | seq a b iha ihb =>
    intro ts H K h
    obtain ⟨k1, ex, ts1, H1, h1, h2⟩ := iha _ _ _ h
    cases ex with
    | normal =>
      obtain ⟨k2, ex2, ts2, H2, h3, h4⟩ := ihb _ _ _ h2
      refine ⟨max k1 k2, ex2, ts2, H2, ?_, h4⟩
      simp only [vcode, vcode_up (Nat.le_max_left k1 k2) h1]
      exact vcode_up (Nat.le_max_right k1 k2) h3
    | exit id => exact ⟨k1, .exit id, ts1, H1, by simp only [vcode, h1], h2⟩
    | ret => exact ⟨k1, .ret, ts1, H1, by simp only [vcode, h1], h2⟩
  | cond q a b iha ihb =>
    intro ts H K h
    obtain ⟨x, hv, h1, h2⟩ := condD_elim h
    cases x with
    | true =>
      obtain ⟨k, ex, ts', H', g1, g2⟩ := iha _ _ _ (h1 rfl)
      exact ⟨k, ex, ts', H', by simp only [vcode, hv, vboolV, if_true, g1], g2⟩
    | false =>
      obtain ⟨k, ex, ts', H', g1, g2⟩ := ihb _ _ _ (h2 rfl)
      exact ⟨k, ex, ts', H', by simp only [vcode, hv, vboolV, Bool.false_eq_true, if_false, g1], g2⟩
  | block id b ih =>
    intro ts H K h
    obtain ⟨k, ex, ts', H', h1, h2⟩ := ih _ _ _ h
    cases ex with
    | normal => exact ⟨k, .normal, ts', H', by simp only [vcode, h1], h2⟩
    | ret => exact ⟨k, .ret, ts', H', by simp only [vcode, h1], h2⟩
    | exit id' =>
      simp only [blockD] at h2
      split at h2
      · rename_i e; exact ⟨k, .normal, ts', H', by simp only [vcode, h1, if_pos e], h2⟩
      · rename_i e; exact ⟨k, .exit id', ts', H', by simp only [vcode, h1, if_neg e], h2⟩
  | loop b ih =>
    intro ts H K h
    obtain ⟨n, h⟩ := h
    have go : ∀ n ts H, VWr (fun t h k => VWc P tab orc self b t h k) n ts H K → ∃ k m ex ts' H', viter (vcode P (tab self) (vrun P tab orc k) k b) m ts H = some (ex, ts', H') ∧ K ex ts' H' := by
      intro n
      induction n with
      | zero => intro ts H h; exact h.elim
      | succ n ihn =>
        intro ts H h
        obtain ⟨k1, ex, ts1, H1, h1, h2⟩ := ih _ _ _ h
        cases ex with
        | normal =>
          obtain ⟨k2, m, ex2, ts2, H2, h3, h4⟩ := ihn _ _ h2
          refine ⟨max k1 k2, m + 1, ex2, ts2, H2, ?_, h4⟩
          simp only [viter, vcode_up (Nat.le_max_left k1 k2) h1]
          exact viter_mono (fun t H r hr => vcode_up (Nat.le_max_right k1 k2) hr) _ _ (Nat.le_refl _) _ _ _ h3
        | exit id => exact ⟨k1, 1, .exit id, ts1, H1, by simp only [viter, h1], h2⟩
        | ret => exact ⟨k1, 1, .ret, ts1, H1, by simp only [viter, h1], h2⟩
    obtain ⟨k, m, ex, ts', H', h1, h2⟩ := go n ts H h
    refine ⟨max k m, ex, ts', H', ?_, h2⟩
    simp only [vcode]
    exact viter_mono (fun t H r hr => vcode_up (Nat.le_max_left k m) hr) _ _ (Nat.le_max_right k m) _ _ _ h1
  | scope b ih => intro ts H K h; obtain ⟨k, ex, ts', H', h1, h2⟩ := ih _ _ _ h; exact ⟨k, ex, ts', H', by simp only [vcode, h1], h2⟩
  | exit id => intro ts H K h; exact ⟨0, .exit id, ts, H, rfl, h⟩
  | ret => intro ts H K h; exact ⟨0, .ret, ts, H, rfl, h⟩
  | _ => intro ts H K h; exact h.elim

/-- What stands behind a body: its results. -/
def endD (P : Program) (V0 : VHeap) (mv : Bool) (rs : List ResultVar) (Q : DV → VHeap → Prop) : Ex → Array DV → VHeap → Prop
  | .exit _, _, _ => False
  | _, ts, H => obind (resultsD P rs ts H) fun vs => obind (leaveD V0 mv vs H) fun r => Q (packD r.1) r.2

theorem VEv_of {P : Program} {tab : Tab} {orc : VOrc} {f : FuncId} {mv : Bool} {fn : Func} {c : Code} {args : List DV} {H : VHeap} {Q : DV → VHeap → Prop} (ho : vask orc f mv args H = none) (hf : P.funcs[f]? = some fn) (hc : callable fn = true) (hb : fn.body = some c)
    (h : VWc P tab orc f c (enterD fn args) H (endD P H mv fn.results.toList Q)) : VEv P tab orc f mv args H Q := by
  obtain ⟨k, ex, ts, H', h1, h2⟩ := VWc_sound _ _ _ _ h
  cases ex with
  | exit id => exact h2.elim
  | normal =>
    obtain ⟨vs, h3, h4⟩ := obind_elim h2
    obtain ⟨r, h5, h6⟩ := obind_elim h4
    exact ⟨k + 1, _, _, by simp only [vrun, ho, hf, if_pos hc, vbody, hb, h1, h3, h5, Option.bind_some, Option.map_some], h6⟩
  | ret =>
    obtain ⟨vs, h3, h4⟩ := obind_elim h2
    obtain ⟨r, h5, h6⟩ := obind_elim h4
    exact ⟨k + 1, _, _, by simp only [vrun, ho, hf, if_pos hc, vbody, hb, h1, h3, h5, Option.bind_some, Option.map_some], h6⟩
theorem VEv_ofW {P : Program} {tab : Tab} {orc : VOrc} {f : FuncId} {mv : Bool} {fn : Func} {c : Code} {args : List DV} {H : VHeap} {Q : DV → VHeap → Prop} {W : Prop} (ho : vask orc f mv args H = none) (hf : P.funcs[f]? = some fn) (hc : callable fn = true) (hb : fn.body = some c)
    (e : VWc P tab orc f c (enterD fn args) H (endD P H mv fn.results.toList Q) = W) (h : W) : VEv P tab orc f mv args H Q := VEv_of ho hf hc hb (by rw [e]; exact h)

theorem VWg_mono {ops : Array Oper} {g : Nat} {want : Bool} {kn : List (Nat × Bool)} {sk : List Nat} {ts : Array DV} {run skip run' skip' : List (Nat × Bool) → Array DV → Prop} (h : VWg ops g want kn sk ts run skip)
    (h1 : ∀ kn ts, run kn ts → run' kn ts) (h2 : ∀ kn ts, skip kn ts → skip' kn ts) : VWg ops g want kn sk ts run' skip' := by
  unfold VWg at *
  split
  · rename_i e; rw [if_pos e] at h; exact h2 _ _ h
  · rename_i e
    rw [if_neg e] at h
    split
    · rename_i b hb
      simp only [hb] at h
      split
      · rename_i e2; rw [if_pos e2] at h; exact h1 _ _ h
      · rename_i e2; rw [if_neg e2] at h; exact h2 _ _ h
    · rename_i hb
      simp only [hb] at h
      split
      · rename_i hd; simp only [hd] at h
      · rename_i d hd
        simp only [hd] at h
        refine condD_mono h (fun this => ?_) (fun this => ?_)
        · cases want with
          | true => exact h1 _ _ this
          | false => exact h2 _ _ this
        · cases want with
          | true => exact h2 _ _ this
          | false => exact h1 _ _ this
theorem VWo_mono {P : Program} {tab : Tab} {orc : VOrc} {self : FuncId} {ops : Array Oper} {K K' : Array DV → VHeap → Prop} (hk : ∀ ts H, K ts H → K' ts H) : ∀ (l : List Oper) (i : Nat) (kn : List (Nat × Bool)) (sk : List Nat) (ts : Array DV) (H : VHeap), VWo P tab orc self ops l i kn sk ts H K → VWo P tab orc self ops l i kn sk ts H K' := by
  intro l
  induction l with
  | nil => intro i kn sk ts H h; exact hk _ _ h
  | cons o rest ih =>
    intro i kn sk ts H h
    simp only [VWo] at h ⊢
    split
    · rename_i e
      simp only [e] at h
      exact VWop_mono h fun v H' hh => ih _ _ _ _ _ hh
    · rename_i g want e
      simp only [e] at h
      exact VWg_mono h (fun kn ts hh => VWop_mono hh fun v H' hhh => ih _ _ _ _ _ hhh) (fun kn ts hh => ih _ _ _ _ _ hh)
theorem VWd_mono {P : Program} {tab : Tab} {orc : VOrc} {self : FuncId} {ops : Array Oper} {up : List Nat} {K K' : Array DV → VHeap → Prop} (hk : ∀ ts H, K ts H → K' ts H) : ∀ (l : List Nat) (m : Nat) (hs : List VHeld) (kn : List (Nat × Bool)) (sk : List Nat) (ts : Array DV) (H : VHeap), VWd P tab orc self ops up l m hs kn sk ts H K → VWd P tab orc self ops up l m hs kn sk ts H K' := by
  intro l
  induction l with
  | nil => intro m hs kn sk ts H h; exact hk _ _ h
  | cons i rest ih =>
    intro m hs kn sk ts H h
    simp only [VWd] at h ⊢
    cases ho : ops[i]? with
    | none => simp only [ho] at h
    | some o =>
      simp only [ho] at h ⊢
      have run : ∀ (kn : List (Nat × Bool)) (ts : Array DV), (VWop P tab orc self (evalD ts) o H fun v H' =>
          match kindOf o.op with
          | .eff => heldVP (m + 1) H' hs ∧ VWd P tab orc self ops up rest (m + 1) hs (cleanK ops o.dst kn) (cleanS ops o.dst sk) (putD ts o.dst v) H' K
          | .read => VWd P tab orc self ops up rest m (if up.getD i 0 = m then hs else ⟨up.getD i 0, vdep (evalD ts) o H⟩ :: hs) (cleanK ops o.dst kn) (cleanS ops o.dst sk) (putD ts o.dst v) H' K
          | _ => VWd P tab orc self ops up rest m hs (cleanK ops o.dst kn) (cleanS ops o.dst sk) (putD ts o.dst v) H' K) →
          (VWop P tab orc self (evalD ts) o H fun v H' =>
          match kindOf o.op with
          | .eff => heldVP (m + 1) H' hs ∧ VWd P tab orc self ops up rest (m + 1) hs (cleanK ops o.dst kn) (cleanS ops o.dst sk) (putD ts o.dst v) H' K'
          | .read => VWd P tab orc self ops up rest m (if up.getD i 0 = m then hs else ⟨up.getD i 0, vdep (evalD ts) o H⟩ :: hs) (cleanK ops o.dst kn) (cleanS ops o.dst sk) (putD ts o.dst v) H' K'
          | _ => VWd P tab orc self ops up rest m hs (cleanK ops o.dst kn) (cleanS ops o.dst sk) (putD ts o.dst v) H' K') := by
        intro kn ts h
        refine VWop_mono h fun v H' hh => ?_
        revert hh
        cases kindOf o.op with
        | eff => exact fun hh => ⟨hh.1, ih _ _ _ _ _ _ hh.2⟩
        | read => exact fun hh => ih _ _ _ _ _ _ hh
        | quiet => exact fun hh => ih _ _ _ _ _ _ hh
        | make => exact fun hh => ih _ _ _ _ _ _ hh
      split
      · rename_i e
        simp only [e] at h
        exact run _ _ h
      · rename_i g want e
        simp only [e] at h
        exact VWg_mono h run (fun kn ts hh => ih _ _ _ _ _ _ hh)
theorem VWr_mono {f : Array DV → VHeap → (Ex → Array DV → VHeap → Prop) → Prop} (hf : ∀ ts H K K', (∀ ex ts H, K ex ts H → K' ex ts H) → f ts H K → f ts H K') {K K' : Ex → Array DV → VHeap → Prop} (hk : ∀ ex ts H, K ex ts H → K' ex ts H) :
    ∀ n ts H, VWr f n ts H K → VWr f n ts H K'
  | 0, _, _, h => h
  | n + 1, ts, H, h => by
    simp only [VWr] at h ⊢
    refine hf _ _ _ _ (fun ex ts H hh => ?_) h
    cases ex with
    | normal => exact VWr_mono hf hk n _ _ hh
    | exit id => exact hk _ _ _ hh
    | ret => exact hk _ _ _ hh
theorem VWc_mono {P : Program} {tab : Tab} {orc : VOrc} {self : FuncId} : ∀ (c : Code) (ts : Array DV) (H : VHeap) (K K' : Ex → Array DV → VHeap → Prop), (∀ ex ts H, K ex ts H → K' ex ts H) → VWc P tab orc self c ts H K → VWc P tab orc self c ts H K' := by
  intro c
  induction c with
  | skip => intro ts H K K' hk h; exact hk _ _ _ h
  | label l => intro ts H K K' hk h; exact hk _ _ _ h
  | region id ops draw =>
    intro ts H K K' hk h
    cases draw with
    | true => exact VWd_mono (fun ts H hh => hk _ _ _ hh) _ _ _ _ _ _ _ h
    | false => exact VWo_mono (fun ts H hh => hk _ _ _ hh) _ _ _ _ _ _ h
  | seq a b iha ihb =>
    intro ts H K K' hk h
    refine iha _ _ _ _ (fun ex ts H hh => ?_) h
    cases ex with
    | normal => exact ihb _ _ _ _ hk hh
    | exit id => exact hk _ _ _ hh
    | ret => exact hk _ _ _ hh
  | cond q a b iha ihb =>
    intro ts H K K' hk h
    exact condD_mono h (fun hh => iha _ _ _ _ hk hh) (fun hh => ihb _ _ _ _ hk hh)
  | block id b ih =>
    intro ts H K K' hk h
    refine ih _ _ _ _ (fun ex ts H hh => ?_) h
    cases ex with
    | normal => exact hk _ _ _ hh
    | ret => exact hk _ _ _ hh
    | exit id' =>
      simp only [blockD] at hh ⊢
      split
      · rename_i e; rw [if_pos e] at hh; exact hk _ _ _ hh
      · rename_i e; rw [if_neg e] at hh; exact hk _ _ _ hh
  | loop b ih =>
    intro ts H K K' hk h
    obtain ⟨n, h⟩ := h
    exact ⟨n, VWr_mono (f := fun t h k => VWc P tab orc self b t h k) (fun ts H K K' hk h => ih _ _ _ _ hk h) hk n ts H h⟩
  | scope b ih => intro ts H K K' hk h; exact ih _ _ _ _ hk h
  | exit id => intro ts H K K' hk h; exact hk _ _ _ h
  | ret => intro ts H K K' hk h; exact hk _ _ _ h
  | _ => intro ts H K K' hk h; exact h

/-- A loop: what holds ahead of each round, and a measure. -/
theorem VWloop_rule {P : Program} {tab : Tab} {orc : VOrc} {self : FuncId} {b : Code} {ts : Array DV} {H : VHeap} {K : Ex → Array DV → VHeap → Prop} (I : Nat → Array DV → VHeap → Prop) (n : Nat) (h0 : I n ts H)
    (step : ∀ n ts H, I n ts H → VWc P tab orc self b ts H (seqD (fun ts' H' _ => ∃ m, m < n ∧ I m ts' H') K)) : VWloop P tab orc self b ts H K := by
  have key : ∀ N n, n < N → ∀ ts H, I n ts H → VWr (fun t h k => VWc P tab orc self b t h k) N ts H K := by
    intro N
    induction N with
    | zero => intro n hn; omega
    | succ N ih =>
      intro n hn ts H hI
      refine VWc_mono _ _ _ _ _ (fun ex ts H hh => ?_) (step n ts H hI)
      cases ex with
      | normal =>
        obtain ⟨m, hm, hI'⟩ := hh
        exact ih m (by omega) _ _ hI'
      | exit id => exact hh
      | ret => exact hh
  exact ⟨n + 1, key (n + 1) n (by omega) ts H h0⟩

end Go.Abs
