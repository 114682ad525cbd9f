import Derived.Test.YtiaibplflmjohaaGAskL
namespace Go.Proofs.Ytiaibplflmjohaa.GAsk
open Go.RowKit Go.Proofs.YtiaibplflmjohaaW.PrintWords
set_option linter.unusedVariables false
set_option linter.unusedSimpArgs false
/-- Is a request right. -/
def rightB (f many to_ : Int) (nw nb : Nat) : Bool :=
  match kindOf f with
  | none => false
  | some (kr, kb, kw, ko) => listedB nb kb && listedB nw kw && (to_ == 0 || f == 23) && (if manyI kr ko nb nw ≥ 0 then wrap64 many == manyI kr ko nb nw else decide (1 ≤ many) && decide (wrap64 many ≤ kr))
set_option maxHeartbeats 3200000 in
theorem Right_any (f at_ many to_ : Int) (Aw : Option Addr) (nw cw : Nat) (Ab : Option Addr) (nb cb : Nat) (w : World) :
    Calls Try.prog 13 #[.agg #[.int .u8 f, .int .u16 at_, .int .u16 many, .int .u16 to_, .slice Aw nw cw, .slice Ab nb cb]] w fun e w' => e = .returned (.bool (rightB f many to_ nw nb)) ∧ Below w.heap.size w w' := by
  have hlk : ∀ (o : Obj), (Instr.lookup 60 (.map (some (w.heap.size + 1))) (.int .u8 f) true).run Try.prog ((w.alloc o).alloc (.map kindsEs 9)).drew = .ok (.tuple #[kindV f, .bool (kindOf f).isSome]) ((w.alloc o).alloc (.map kindsEs 9)).drew := fun o => look_kinds f _ _ (by have := heap_alloc_new (w.alloc o) (.map kindsEs 9); rw [World.size_alloc] at this; exact this)
  have hlk2 : ∀ (o p : Obj), (Instr.lookup 60 (.map (some (w.heap.size + 1))) (.int .u8 f) true).run Try.prog (((w.alloc o).alloc (.map kindsEs 9)).alloc p).drew = .ok (.tuple #[kindV f, .bool (kindOf f).isSome]) (((w.alloc o).alloc (.map kindsEs 9)).alloc p).drew := fun o p => look_kinds f _ _ (by have := blk_below (heap_alloc_new (w.alloc o) (.map kindsEs 9)) (below_alloc (Below.refl _ _) p); rw [World.size_alloc] at this; exact this)
  have hlk3 : ∀ (o p : Obj), (Instr.lookup 60 (.map (some (w.heap.size + 2))) (.int .u8 f) true).run Try.prog (((w.alloc o).alloc p).alloc (.map kindsEs 9)).drew = .ok (.tuple #[kindV f, .bool (kindOf f).isSome]) (((w.alloc o).alloc p).alloc (.map kindsEs 9)).drew := fun o p => look_kinds f _ _ (by have := heap_alloc_new ((w.alloc o).alloc p) (.map kindsEs 9); rw [World.size_alloc, World.size_alloc] at this; exact this)
  obtain ⟨kr, kb, kw, ko, hkv⟩ : ∃ (a b c : Int) (d : Bool), kindV f = .agg #[.int .i64 a, .int .i64 b, .int .i64 c, .bool d] := by
    unfold kindV
    cases kindOf f with
    | none => exact ⟨_, _, _, _, rfl⟩
    | some x => exact ⟨_, _, _, _, rfl⟩
  rw [hkv] at hlk hlk2 hlk3
  have Hkv := Aside0.mk hkv
  clear hkv
  obtain ⟨kn, hkn⟩ : ∃ b, (kindOf f).isSome = b := ⟨_, rfl⟩
  rw [hkn] at hlk hlk2 hlk3
  have hR : rightB f many to_ nw nb = (kn && (listedB nb kb && listedB nw kw && (to_ == 0 || f == 23) && (if manyI kr ko nb nw ≥ 0 then wrap64 many == manyI kr ko nb nw else decide (1 ≤ many) && decide (wrap64 many ≤ kr)))) := by
    have h := Hkv.out
    unfold kindV at h
    unfold rightB
    cases hq : kindOf f with
    | none => rw [hq] at hkn; simp at hkn; subst hkn; rfl
    | some x =>
      obtain ⟨a, b, c, d⟩ := x
      rw [hq] at hkn h
      simp [rec4] at hkn h
      obtain ⟨rfl, rfl, rfl, rfl⟩ := h
      subst hkn
      rfl
  have HR := Aside0.mk hR
  clear hR
  have Hkn := Aside0.mk hkn
  clear hkn
  go_enter Try.func13, Try.ntmps13
  go_upto_region 1 with fail
  go_cut [3, 4] (fun s3 s4 wx => ∃ g : Nat, s3 = .pointer (some ⟨g, 0, none⟩) ∧ s4 = .bool kn ∧ wx.heap[g]? = some (.cells #[.int .i64 kr, .int .i64 kb, .int .i64 kw, .bool ko] 58 (0, 0)) ∧ wx.heap[w.heap.size]? = some (.cells #[.int .u8 f, .int .u16 at_, .int .u16 many, .int .u16 to_, .slice Aw nw cw, .slice Ab nb cb] 26 (0, 0)) ∧ Below w.heap.size w wx)
  case first =>
    go_region_held3 (fun w' => w'.cell? ⟨w.heap.size, 0, none⟩ = some (.int .u8 f)) (go_keep)
      ((go_at_call 33; refine (kinds_any _).mono ?_; rintro e w' ⟨rfl, rfl⟩))
    all_goals (go_wp2_with fail; go_meet; exact ⟨_, rfl, rfl, by repeat (first | exact heap_at _ _ _ (by simp) | apply heap_old), by repeat (first | exact heap_at _ _ _ (by simp) | apply heap_old), by repeat (first | exact Below.refl _ _ | apply below_drew | apply below_alloc)⟩)
  case rest =>
    obtain ⟨g, rfl, rfl, hg, hb, hB⟩ := hcut
    clear hlk hlk2 hlk3
    have h0 : wc.cell? ⟨w.heap.size, 0, none⟩ = some (.int .u8 f) := (blk_cell hb 0).trans rfl
    have h1 : wc.cell? ⟨w.heap.size, 1, none⟩ = some (.int .u16 at_) := (blk_cell hb 1).trans rfl
    have h2 : wc.cell? ⟨w.heap.size, 2, none⟩ = some (.int .u16 many) := (blk_cell hb 2).trans rfl
    have h3 : wc.cell? ⟨w.heap.size, 3, none⟩ = some (.int .u16 to_) := (blk_cell hb 3).trans rfl
    have h4 : wc.cell? ⟨w.heap.size, 4, none⟩ = some (.slice Aw nw cw) := (blk_cell hb 4).trans rfl
    have h5 : wc.cell? ⟨w.heap.size, 5, none⟩ = some (.slice Ab nb cb) := (blk_cell hb 5).trans rfl
    have k0 : wc.cell? ⟨g, 0, none⟩ = some (.int .i64 kr) := (blk_cell hg 0).trans rfl
    have k1 : wc.cell? ⟨g, 1, none⟩ = some (.int .i64 kb) := (blk_cell hg 1).trans rfl
    have k2 : wc.cell? ⟨g, 2, none⟩ = some (.int .i64 kw) := (blk_cell hg 2).trans rfl
    have k3 : wc.cell? ⟨g, 3, none⟩ = some (.bool ko) := (blk_cell hg 3).trans rfl
    have HB := Aside0.mk hB
    clear hb hg hB
    cases kn
    · go_wp2
      go_ret
      exact ⟨by rw [HR.out]; rfl, HB.out⟩
    · cases e1 : listedB nb kb
      · go_wp2_with (first | (go_at_call 34; refine (listed_any _ _ _).mono ?_; rintro e w' ⟨rfl, rfl⟩) | (go_at_call 35; refine (many_any _ _ _ _ _ _ _ _ _ _ _ _ _ _ _).mono ?_; rintro e w2 ⟨rfl, hb2⟩; have g0 := pw_cell_below hb2 k0; have g2 := pw_cell_below hb2 h2; have HB2 := Aside0.mk (below_step HB.out hb2); clear hb2))
        go_ret
        exact ⟨by rw [HR.out, e1]; rfl, HB.out⟩
      · cases e2 : listedB nw kw
        · go_wp2_with (first | (go_at_call 34; refine (listed_any _ _ _).mono ?_; rintro e w' ⟨rfl, rfl⟩) | (go_at_call 35; refine (many_any _ _ _ _ _ _ _ _ _ _ _ _ _ _ _).mono ?_; rintro e w2 ⟨rfl, hb2⟩; have g0 := pw_cell_below hb2 k0; have g2 := pw_cell_below hb2 h2; have HB2 := Aside0.mk (below_step HB.out hb2); clear hb2))
          go_ret
          exact ⟨by rw [HR.out, e1, e2]; rfl, HB.out⟩
        · cases e3 : (to_ == 0 || f == 23)
          · rw [Bool.or_eq_false_iff] at e3
            obtain ⟨e4, e5⟩ := e3
            have e6 : (to_ != 0) = true := by simp [bne, e4]
            have e7 : (f != 23) = true := by simp [bne, e5]
            go_wp2_with (first | (go_at_call 34; refine (listed_any _ _ _).mono ?_; rintro e w' ⟨rfl, rfl⟩) | (go_at_call 35; refine (many_any _ _ _ _ _ _ _ _ _ _ _ _ _ _ _).mono ?_; rintro e w2 ⟨rfl, hb2⟩; have g0 := pw_cell_below hb2 k0; have g2 := pw_cell_below hb2 h2; have HB2 := Aside0.mk (below_step HB.out hb2); clear hb2))
            go_ret
            exact ⟨by rw [HR.out, e1, e2, e4, e5]; rfl, HB.out⟩
          · have e8 : (to_ != 0 && f != 23) = false := by
              rw [Bool.or_eq_true] at e3
              rcases e3 with h | h <;> simp [bne, h]
            have E3 := Aside0.mk e3
            clear e3
            have key : ∀ b : Bool, b = (if manyI kr ko nb nw ≥ 0 then wrap64 many == manyI kr ko nb nw else decide (1 ≤ many) && decide (wrap64 many ≤ kr)) → rightB f many to_ nw nb = b := by
              intro b hb
              rw [HR.out, e1, e2, E3.out, hb]
              rfl
            have Key := Aside0.mk key
            clear key
            by_cases h9 : manyI kr ko nb nw ≥ 0
            · have h10 : decide (0 ≤ manyI kr ko nb nw) = true := decide_eq_true h9
              rw [if_pos h9] at Key
              clear h9
              cases e10 : (to_ != 0)
              · go_wp2_with (first | (go_at_call 34; refine (listed_any _ _ _).mono ?_; rintro e w' ⟨rfl, rfl⟩) | (go_at_call 35; refine (many_any _ _ _ _ _ _ _ _ _ _ _ _ _ _ _).mono ?_; rintro e w2 ⟨rfl, hb2⟩; have g0 := pw_cell_below hb2 k0; have g2 := pw_cell_below hb2 h2; have HB2 := Aside0.mk (below_step HB.out hb2); clear hb2))
                go_ret
                exact ⟨by rw [Key.out _ rfl]; rfl, HB2.out⟩
              · rw [e10, Bool.true_and] at e8
                go_wp2_with (first | (go_at_call 34; refine (listed_any _ _ _).mono ?_; rintro e w' ⟨rfl, rfl⟩) | (go_at_call 35; refine (many_any _ _ _ _ _ _ _ _ _ _ _ _ _ _ _).mono ?_; rintro e w2 ⟨rfl, hb2⟩; have g0 := pw_cell_below hb2 k0; have g2 := pw_cell_below hb2 h2; have HB2 := Aside0.mk (below_step HB.out hb2); clear hb2))
                go_ret
                exact ⟨by rw [Key.out _ rfl]; rfl, HB2.out⟩
            · have h10 : decide (0 ≤ manyI kr ko nb nw) = false := decide_eq_false h9
              rw [if_neg h9] at Key
              clear h9
              cases e12 : decide (1 ≤ many)
              · rw [e12] at Key
                cases e10 : (to_ != 0)
                · go_wp2_with (first | (go_at_call 34; refine (listed_any _ _ _).mono ?_; rintro e w' ⟨rfl, rfl⟩) | (go_at_call 35; refine (many_any _ _ _ _ _ _ _ _ _ _ _ _ _ _ _).mono ?_; rintro e w2 ⟨rfl, hb2⟩; have g0 := pw_cell_below hb2 k0; have g2 := pw_cell_below hb2 h2; have HB2 := Aside0.mk (below_step HB.out hb2); clear hb2))
                  go_ret
                  exact ⟨by rw [Key.out _ rfl]; rfl, HB2.out⟩
                · rw [e10, Bool.true_and] at e8
                  go_wp2_with (first | (go_at_call 34; refine (listed_any _ _ _).mono ?_; rintro e w' ⟨rfl, rfl⟩) | (go_at_call 35; refine (many_any _ _ _ _ _ _ _ _ _ _ _ _ _ _ _).mono ?_; rintro e w2 ⟨rfl, hb2⟩; have g0 := pw_cell_below hb2 k0; have g2 := pw_cell_below hb2 h2; have HB2 := Aside0.mk (below_step HB.out hb2); clear hb2))
                  go_ret
                  exact ⟨by rw [Key.out _ rfl]; rfl, HB2.out⟩
              · rw [e12] at Key
                cases e10 : (to_ != 0)
                · go_wp2_with (first | (go_at_call 34; refine (listed_any _ _ _).mono ?_; rintro e w' ⟨rfl, rfl⟩) | (go_at_call 35; refine (many_any _ _ _ _ _ _ _ _ _ _ _ _ _ _ _).mono ?_; rintro e w2 ⟨rfl, hb2⟩; have g0 := pw_cell_below hb2 k0; have g2 := pw_cell_below hb2 h2; have HB2 := Aside0.mk (below_step HB.out hb2); clear hb2))
                  go_ret
                  exact ⟨by rw [Key.out _ rfl]; rfl, HB2.out⟩
                · rw [e10, Bool.true_and] at e8
                  go_wp2_with (first | (go_at_call 34; refine (listed_any _ _ _).mono ?_; rintro e w' ⟨rfl, rfl⟩) | (go_at_call 35; refine (many_any _ _ _ _ _ _ _ _ _ _ _ _ _ _ _).mono ?_; rintro e w2 ⟨rfl, hb2⟩; have g0 := pw_cell_below hb2 k0; have g2 := pw_cell_below hb2 h2; have HB2 := Aside0.mk (below_step HB.out hb2); clear hb2))
                  go_ret
                  exact ⟨by rw [Key.out _ rfl]; rfl, HB2.out⟩
end Go.Proofs.Ytiaibplflmjohaa.GAsk
