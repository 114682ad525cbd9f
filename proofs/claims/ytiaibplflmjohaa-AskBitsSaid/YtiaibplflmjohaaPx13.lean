/- The machine side of the laws of this seat, printed by a program of this session (wip/tools/mkprint.py) out of the kit print and of contracts proved by hand; Lean checks all of it. -/
import Derived.Test.YtiaibplflmjohaaPx0
import Derived.Test.YtiaibplflmjohaaPx11
import Derived.Test.YtiaibplflmjohaaGAskR
namespace Go.Proofs.Ytiaibplflmjohaa.P
open Go.RowKit Go.Proofs.YtiaibplflmjohaaW.PrintWords Go.Proofs.YtiaibplflmjohaaW.PrintLast Go.Proofs.YtiaibplflmjohaaW.PrintMore
attribute [local go_sem] max2_int min2_int max_two min_two max_three min_three max_four min_four   -- for this text's walks alone
set_option linter.unusedVariables false
set_option linter.unusedSimpArgs false

-- GIVEN Derived.Test.YtiaibplflmjohaaGAskR
/-- What bytes say, or what is wrong with them. -/
def ask_Look.f (l0 : List Int) : Option (Int × Int × Int × Int × List Int × List Bool × Int) :=
  (ask_Parse.f l0).bind fun p =>
    if p.2.2.2.2.2.2 = 0 then some (p.1, p.2.1, p.2.2.1, p.2.2.2.1, p.2.2.2.2.1, p.2.2.2.2.2.1, 0)
    else if l0.length = 0 then some (0, 0, 0, 0, [], [], 1)
    else if (GAsk.kindOf (rd l0 0)).isSome = true then some (rd l0 0, 0, 0, 0, [], [], 3)
    else some (rd l0 0, 0, 0, 0, [], [], 1)
/-- The answer's place is written. -/
theorem res6 {w X : World} {z0 z1 z2 z3 z4 z5 : Value} {a b c d : Int} {v4 v5 : Value} {ws : List Int} {bs : List Bool} (hres : X.heap[w.heap.size]? = some (.cells #[z0, z1, z2, z3, z4, z5] 26 (0, 0)))
    (r4 : (Kd.int .u16).R 22 X w.heap.size (fun _ => True) v4 ws) (r5 : Kd.bool.R 4 X w.heap.size (fun _ => True) v5 bs) (hB : Below w.heap.size w X) (V : World)
    (hV : V = (((((X.setCell ⟨w.heap.size, 0, none⟩ (.int .u8 a)).setCell ⟨w.heap.size, 1, none⟩ (.int .u16 b)).setCell ⟨w.heap.size, 2, none⟩ (.int .u16 c)).setCell ⟨w.heap.size, 3, none⟩ (.int .u16 d)).setCell ⟨w.heap.size, 4, none⟩ v4).setCell ⟨w.heap.size, 5, none⟩ v5) :
    V.heap[w.heap.size]? = some (.cells #[.int .u8 a, .int .u16 b, .int .u16 c, .int .u16 d, v4, v5] 26 (0, 0)) ∧ (Kd.int .u16).R 22 V w.heap.size (fun _ => True) v4 ws ∧ Kd.bool.R 4 V w.heap.size (fun _ => True) v5 bs ∧ Below w.heap.size w V := by
  have hk : KeepBut X V w.heap.size none := by
    rw [hV]
    exact ((((((KeepBut.refl X w.heap.size none).set_ 0 _).set_ 1 _).set_ 2 _).set_ 3 _).set_ 4 _).set_ 5 _
  refine ⟨?_, Kd.R_mono (Kd.R_keep (Kd.R_types r4 hres (by simp [Kd.int, Kd.scalar])) hk (fun k hk => hk.2)) (fun _ _ => trivial), Kd.R_mono (Kd.R_keep (Kd.R_types r5 hres (by simp [Kd.bool, Kd.scalar])) hk (fun k hk => hk.2)) (fun _ _ => trivial), ?_⟩
  · rw [hV]
    simpa using blk_set (blk_set (blk_set (blk_set (blk_set (blk_set hres 0 (.int .u8 a)) 1 (.int .u16 b)) 2 (.int .u16 c)) 3 (.int .u16 d)) 4 v4) 5 v5
  · rw [hV]
    have hs : ∀ {X : World}, Below w.heap.size w X → ∀ (j : Nat) (u : Value), Below w.heap.size w (X.setCell ⟨w.heap.size, j, none⟩ u) := fun hb j u => hb.setCell (p := ⟨w.heap.size, j, none⟩) (Nat.le_refl _) u
    exact hs (hs (hs (hs (hs (hs hB _ _) _ _) _ _) _ _) _ _) _ _
open GAsk in
set_option maxHeartbeats 1600000 in
set_option maxRecDepth 100000 in
theorem ask_Look.calls (A0 : Option Addr) (c0 : Nat) (l0 : List Int) (r1 : Int) (r2 : Int) (r3 : Int) (r4 : Int) (r5 : List Int) (r6 : List Bool) (r7 : Int) (w : World) (hr0 : Kd.C (Kd.int .u8) w A0 l0.length l0) (hc0 : l0.length ≤ c0) (h : ask_Look.f l0 = some (r1, r2, r3, r4, r5, r6, r7)) :
    Calls Try.prog 20 #[.slice A0 l0.length c0] w fun e w' => ∃ v4_ v5_ : Value, e = .returned (.tuple #[.agg #[.int .u8 r1, .int .u16 r2, .int .u16 r3, .int .u16 r4, v4_, v5_], .int .u8 r7]) ∧ Kd.R (Kd.int .u16) 22 w' w.heap.size (fun _ => True) v4_ r5 ∧ Kd.R Kd.bool 4 w' w.heap.size (fun _ => True) v5_ r6 ∧ Below w.heap.size w w' := by
  unfold ask_Look.f at h
  obtain ⟨⟨p1, p2, p3, p4, p5, p6, p7⟩, hp, h⟩ := Option.bind_eq_some_iff.1 h
  dsimp only at h
  have HP := Aside0.mk hp
  have HR := Aside0.mk hr0
  have HC := Aside0.mk hc0
  have H := Aside0.mk h
  clear hp hr0 hc0 h
  go_enter Try.func20, Try.ntmps20
  go_wp2_with fail
  obtain ⟨w0, hw0⟩ : ∃ w0, w0 = w.alloc (.cells #[.int .u8 0, .int .u16 0, .int .u16 0, .int .u16 0, .slice none 0 0, .slice none 0 0] 26 (0, 0)) := ⟨_, rfl⟩
  have hres0 := blk_new w (.cells #[.int .u8 0, .int .u16 0, .int .u16 0, .int .u16 0, .slice none 0 0, .slice none 0 0] 26 (0, 0))
  have hB0 := below_alloc (Below.refl w.heap.size w) (.cells #[.int .u8 0, .int .u16 0, .int .u16 0, .int .u16 0, .slice none 0 0, .slice none 0 0] 26 (0, 0))
  rw [← hw0] at hres0 hB0 ⊢
  clear hw0
  refine (ask_Parse.calls A0 c0 l0 p1 p2 p3 p4 p5 p6 p7 w0 (Kd.C_below HR.out hB0) HC.out HP.out).mono ?_
  rintro e w1 ⟨u4, u5, rfl, h4, h5, hb⟩
  have hB1 := hB0.trans (hb.mono hB0.size)
  have hres1 := blk_below hres0 hb
  have h4' := Kd.R_lower h4 hB0.size
  have h5' := Kd.R_lower h5 hB0.size
  obtain ⟨A4, c4, rfl⟩ := Kd.R_slice h4
  obtain ⟨A5, c5, rfl⟩ := Kd.R_slice h5
  have HB := Aside0.mk hB1
  have HRES := Aside0.mk hres1
  have H4 := Aside0.mk h4'
  have H5 := Aside0.mk h5'
  have hres2 := blk_alloc hres1 (.cells #[.int .u8 p1, .int .u16 p2, .int .u16 p3, .int .u16 p4, .slice A4 p5.length c4, .slice A5 p6.length c5] 26 (0, 0))
  have HRES2 := Aside0.mk hres2
  have HB2 := Aside0.mk (below_alloc hB1 (.cells #[.int .u8 p1, .int .u16 p2, .int .u16 p3, .int .u16 p4, .slice A4 p5.length c4, .slice A5 p6.length c5] 26 (0, 0)))
  have z0 := (blk_cell hres2 0).trans rfl
  have z1 := (blk_cell hres2 1).trans rfl
  have z2 := (blk_cell hres2 2).trans rfl
  have z3 := (blk_cell hres2 3).trans rfl
  have z4 := (blk_cell hres2 4).trans rfl
  have z5 := (blk_cell hres2 5).trans rfl
  have y0 := blk_frozen hres2
  clear hres0 hB0 h4 h5 hb hB1 hres1 hres2 h4' h5' HP
  by_cases e7 : p7 = 0
  · have hh := H.out
    rw [if_pos e7] at hh
    have H2 := Aside0.mk hh
    have t1 : (p7 == 0) = true := by simp [e7]
    clear hh H e7
    go_wp2_with fail
    obtain ⟨f1, f2, f3, f4⟩ := res6 HRES2.out (Kd.R_alloc H4.out _) (Kd.R_alloc H5.out _) HB2.out _ rfl
    refine bodyPost_ret (results_ct rfl _ _ w.heap.size 26 _ (0, 0) _ rfl f1 Try.underlying26 rfl (by kernel_rfl)) rfl ?_
    have hh := H2.out
    simp only [Prod.mk.injEq, Option.some.injEq] at hh
    obtain ⟨rfl, rfl, rfl, rfl, rfl, rfl, rfl⟩ := hh
    exact ⟨_, _, rfl, f2, f3, f4⟩
  · have hh := H.out
    rw [if_neg e7] at hh
    have t1 : (p7 == 0) = false := by simpa using e7
    clear H e7
    by_cases e8 : l0.length = 0
    · rw [if_pos e8] at hh
      have H2 := Aside0.mk hh
      have t2 : ((l0.length : Int) == 0) = true := by simp [e8]
      have H8 := Aside0.mk e8
      clear hh e8
      go_wp2_with fail
      obtain ⟨f1, f2, f3, f4⟩ := res6 HRES2.out (Kd.R_nil _ _ _ _ _) (Kd.R_nil _ _ _ _ _) HB2.out _ rfl
      refine bodyPost_ret (results_ct rfl _ _ w.heap.size 26 _ (0, 0) _ rfl f1 Try.underlying26 rfl (by kernel_rfl)) rfl ?_
      have hh := H2.out
      simp only [Prod.mk.injEq, Option.some.injEq] at hh
      obtain ⟨rfl, rfl, rfl, rfl, rfl, rfl, rfl⟩ := hh
      exact ⟨_, _, rfl, f2, f3, f4⟩
    · rw [if_neg e8] at hh
      have H2 := Aside0.mk hh
      have t2 : ((l0.length : Int) == 0) = false := by simpa using e8
      have H8 := Aside0.mk e8
      have hpos : 0 < l0.length := by omega
      obtain ⟨ad, rfl, hx⟩ := Kd.at_int HR.out 0 (by omega) (by omega)
      have hx' : (w1.alloc (.cells #[.int .u8 p1, .int .u16 p2, .int .u16 p3, .int .u16 p4, .slice A4 p5.length c4, .slice A5 p6.length c5] 26 (0, 0))).cell? ad = some (.int .u8 (rd l0 0)) := by
        have := (HB2.out.cell (World.block_lt_of_cell? w _ hx)).trans hx
        simpa [Addr.add] using this
      have hp' := eq_true hpos
      clear hh e8 hx
      go_upto_region 7 with fail
      obtain ⟨W, hW⟩ : ∃ W, W = (w1.alloc (.cells #[.int .u8 p1, .int .u16 p2, .int .u16 p3, .int .u16 p4, .slice A4 p5.length c4, .slice A5 p6.length c5] 26 (0, 0))).alloc (.cells #[.int .u8 (rd l0 0), .int .u16 0, .int .u16 0, .int .u16 0, .slice none 0 0, .slice none 0 0] 26 (0, 0)) := ⟨_, rfl⟩
      have hres3 := blk_alloc HRES2.out (.cells #[.int .u8 (rd l0 0), .int .u16 0, .int .u16 0, .int .u16 0, .slice none 0 0, .slice none 0 0] 26 (0, 0))
      have hB3 := below_alloc HB2.out (.cells #[.int .u8 (rd l0 0), .int .u16 0, .int .u16 0, .int .u16 0, .slice none 0 0, .slice none 0 0] 26 (0, 0))
      have hbad := blk_new (w1.alloc (.cells #[.int .u8 p1, .int .u16 p2, .int .u16 p3, .int .u16 p4, .slice A4 p5.length c4, .slice A5 p6.length c5] 26 (0, 0))) (.cells #[.int .u8 (rd l0 0), .int .u16 0, .int .u16 0, .int .u16 0, .slice none 0 0, .slice none 0 0] 26 (0, 0))
      have hne : w.heap.size < w1.heap.size + 1 := by have := HB.out.size; omega
      have hxW : W.cell? ad = some (.int .u8 (rd l0 0)) := by
        rw [hW]
        exact ((below_alloc (Below.refl _ _) _).cell (World.block_lt_of_cell? _ _ hx')).trans hx'
      rw [← hW] at hres3 hB3 hbad ⊢
      rw [World.size_alloc] at hbad
      have hlk : (Instr.lookup 60 (.map (some W.heap.size)) (.int .u8 (rd l0 0)) true).run Try.prog (W.alloc (.map kindsEs 9)).drew = .ok (.tuple #[kindV (rd l0 0), .bool (kindOf (rd l0 0)).isSome]) (W.alloc (.map kindsEs 9)).drew := look_kinds _ _ _ (heap_alloc_new W (.map kindsEs 9))
      have hlk2 : ∀ p : Obj, (Instr.lookup 60 (.map (some W.heap.size)) (.int .u8 (rd l0 0)) true).run Try.prog ((W.alloc (.map kindsEs 9)).alloc p).drew = .ok (.tuple #[kindV (rd l0 0), .bool (kindOf (rd l0 0)).isSome]) ((W.alloc (.map kindsEs 9)).alloc p).drew := fun p => look_kinds _ _ _ (blk_alloc (heap_alloc_new W (.map kindsEs 9)) p)
      have hlk3 : ∀ p : Obj, (Instr.lookup 60 (.map (some (W.heap.size + 1))) (.int .u8 (rd l0 0)) true).run Try.prog ((W.alloc p).alloc (.map kindsEs 9)).drew = .ok (.tuple #[kindV (rd l0 0), .bool (kindOf (rd l0 0)).isSome]) ((W.alloc p).alloc (.map kindsEs 9)).drew := fun p => look_kinds _ _ _ (by have := heap_alloc_new (W.alloc p) (.map kindsEs 9); rw [World.size_alloc] at this; exact this)
      obtain ⟨kr, kb, kw, ko, hkv⟩ : ∃ (a b c : Int) (d : Bool), kindV (rd l0 0) = .agg #[.int .i64 a, .int .i64 b, .int .i64 c, .bool d] := by
        unfold kindV
        cases kindOf (rd l0 0) with
        | none => exact ⟨_, _, _, _, rfl⟩
        | some x => exact ⟨_, _, _, _, rfl⟩
      rw [hkv] at hlk hlk2 hlk3
      obtain ⟨kn, hkn⟩ : ∃ b, (kindOf (rd l0 0)).isSome = b := ⟨_, rfl⟩
      rw [hkn] at hlk hlk2 hlk3
      obtain ⟨gb, hgb⟩ : ∃ gb, gb = w1.heap.size + 1 := ⟨_, rfl⟩
      rw [← hgb] at hbad hne ⊢
      have hh := H2.out
      rw [hkn] at hh
      have H3 := Aside0.mk hh
      have HRES3 := Aside0.mk hres3
      have HB3 := Aside0.mk hB3
      have HBAD := Aside0.mk hbad
      have HNE := Aside0.mk hne
      clear hh H2 hres3 hB3 hbad hne hkn hkv hgb hW hx' z0 z1 z2 z3 z4 z5 y0
      go_cut [8] (fun s8 wx => s8 = .bool kn ∧ wx.heap[w.heap.size]? = some (.cells #[.int .u8 0, .int .u16 0, .int .u16 0, .int .u16 0, .slice none 0 0, .slice none 0 0] 26 (0, 0)) ∧ wx.heap[gb]? = some (.cells #[.int .u8 (rd l0 0), .int .u16 0, .int .u16 0, .int .u16 0, .slice none 0 0, .slice none 0 0] 26 (0, 0)) ∧ Below w.heap.size w wx)
      case first =>
        go_region_held3 (fun w' => w'.cell? ad = some (.int .u8 (rd l0 0))) (go_keep)
          ((go_at_call 33; refine (kinds_any _).mono ?_; rintro e w' ⟨rfl, rfl⟩))
        all_goals (go_wp2_with fail; go_meet; exact ⟨rfl, blk_drew (blk_alloc (blk_alloc HRES3.out _) _), blk_drew (blk_alloc (blk_alloc HBAD.out _) _), below_drew1 (below_alloc (below_alloc HB3.out _) _)⟩)
      case rest =>
        obtain ⟨rfl, hres4, hbad4, hB4⟩ := hcut
        have b0 : wc.cell? ⟨gb, 0, none⟩ = some (.int .u8 (rd l0 0)) := (blk_cell hbad4 0).trans rfl
        have b1 : wc.cell? ⟨gb, 1, none⟩ = some (.int .u16 0) := (blk_cell hbad4 1).trans rfl
        have b2 : wc.cell? ⟨gb, 2, none⟩ = some (.int .u16 0) := (blk_cell hbad4 2).trans rfl
        have b3 : wc.cell? ⟨gb, 3, none⟩ = some (.int .u16 0) := (blk_cell hbad4 3).trans rfl
        have b4 : wc.cell? ⟨gb, 4, none⟩ = some (.slice none 0 0) := (blk_cell hbad4 4).trans rfl
        have b5 : wc.cell? ⟨gb, 5, none⟩ = some (.slice none 0 0) := (blk_cell hbad4 5).trans rfl
        have z0 := (blk_cell hres4 0).trans rfl
        have z1 := (blk_cell hres4 1).trans rfl
        have z2 := (blk_cell hres4 2).trans rfl
        have z3 := (blk_cell hres4 3).trans rfl
        have z4 := (blk_cell hres4 4).trans rfl
        have z5 := (blk_cell hres4 5).trans rfl
        have y0 := blk_frozen hres4
        have HRES4 := Aside0.mk hres4
        have HB4 := Aside0.mk hB4
        clear hres4 hbad4 hB4 hlk hlk2 hlk3
        cases kn with
        | true =>
          go_wp2_with fail
          obtain ⟨f1, f2, f3, f4⟩ := res6 HRES4.out (Kd.R_nil _ _ _ _ _) (Kd.R_nil _ _ _ _ _) HB4.out _ rfl
          refine bodyPost_ret (results_ct rfl _ _ w.heap.size 26 _ (0, 0) _ rfl f1 Try.underlying26 rfl (by kernel_rfl)) rfl ?_
          have hh := H3.out
          simp only [Bool.false_eq_true, if_false, if_true, Prod.mk.injEq, Option.some.injEq] at hh
          obtain ⟨rfl, rfl, rfl, rfl, rfl, rfl, rfl⟩ := hh
          exact ⟨_, _, rfl, f2, f3, f4⟩
        | false =>
          go_wp2_with fail
          obtain ⟨f1, f2, f3, f4⟩ := res6 HRES4.out (Kd.R_nil _ _ _ _ _) (Kd.R_nil _ _ _ _ _) HB4.out _ rfl
          refine bodyPost_ret (results_ct rfl _ _ w.heap.size 26 _ (0, 0) _ rfl f1 Try.underlying26 rfl (by kernel_rfl)) rfl ?_
          have hh := H3.out
          simp only [Bool.false_eq_true, if_false, if_true, Prod.mk.injEq, Option.some.injEq] at hh
          obtain ⟨rfl, rfl, rfl, rfl, rfl, rfl, rfl⟩ := hh
          exact ⟨_, _, rfl, f2, f3, f4⟩

end Go.Proofs.Ytiaibplflmjohaa.P
