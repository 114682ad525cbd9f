/- Of this session: a machine of its own, proved beside the model, and what the functions of the row come to on it; Lean checks all of it. -/
import Derived.Test.YthjpgccpnakfdaaMachE
import Derived.Attr
import Derived.Deep.Slices
import Derived.ChangeArms
import Derived.WideShapes
import Derived.SizedLaws
import Derived.ChangeOld
set_option linter.unusedVariables false
set_option linter.unusedSimpArgs false
set_option linter.unusedSectionVars false
/- The machine of values: what its operations come to. -/
namespace Go.Abs
open Go Go.RowKit
set_option linter.unusedVariables false
set_option linter.unusedSimpArgs false

@[congr] theorem obind_congr {α : Type} {o o' : Option α} {k : α → Prop} (h : o = o') : obind o k = obind o' k := by rw [h]
@[congr] theorem letK_congr {α : Type} {a a' : α} {k : α → Prop} (h : a = a') : letK a k = letK a' k := by rw [h]
@[congr] theorem condD_congr {v v' : DV} {A B : Prop} (h : v = v') : condD v A B = condD v' A B := by rw [h]
@[congr] theorem ifB_congr {b b' : Bool} {A B : Prop} (h : b = b') : ifB b A B = ifB b' A B := by rw [h]
@[congr] theorem VCl_congr {P : Program} {tab : Tab} {orc : VOrc} {self f : FuncId} {a a' : List DV} {H H' : VHeap} {Q : DV → VHeap → Prop} (h : a = a') (k : H = H') : VCl P tab orc self f a H Q = VCl P tab orc self f a' H' Q := by rw [h, k]
@[congr] theorem VEv_congr {P : Program} {tab : Tab} {orc : VOrc} {f : FuncId} {mv : Bool} {a a' : List DV} {H H' : VHeap} {Q : DV → VHeap → Prop} (h : a = a') (k : H = H') : VEv P tab orc f mv a H Q = VEv P tab orc f mv a' H' Q := by rw [h, k]
@[congr] theorem VWloop_congr {P : Program} {tab : Tab} {orc : VOrc} {self : FuncId} {b : Code} {ts ts' : Array DV} {H H' : VHeap} {K : Ex → Array DV → VHeap → Prop} (h : ts = ts') (k : H = H') : VWloop P tab orc self b ts H K = VWloop P tab orc self b ts' H' K := by rw [h, k]
theorem letK_eq {α : Type} (a : α) (k : α → Prop) : letK a k = k a := propext Iff.rfl
theorem condD_eq (b : Bool) (A B : Prop) : condD (.d (.v (.bool b))) A B = ifB b A B := propext Iff.rfl
theorem unlockK_eq (H : VHeap) (Q : DV → VHeap → Prop) (r : DV) (H' : VHeap) : unlockK H Q r H' = Q r (if (flatD r && sameVers H H' && decide (H'.length = H.length)) = true then H else H') := propext Iff.rfl
theorem unlockK_same (H : VHeap) (Q : DV → VHeap → Prop) (r : DV) : unlockK H Q r H = Q r H := by rw [unlockK_eq, ite_self]
theorem seqD_normal (f : Array DV → VHeap → (Ex → Array DV → VHeap → Prop) → Prop) (K : Ex → Array DV → VHeap → Prop) (ts : Array DV) (H : VHeap) : seqD f K .normal ts H = f ts H K := propext Iff.rfl
theorem seqD_exit (f : Array DV → VHeap → (Ex → Array DV → VHeap → Prop) → Prop) (K : Ex → Array DV → VHeap → Prop) (id : Nat) (ts : Array DV) (H : VHeap) : seqD f K (.exit id) ts H = K (.exit id) ts H := propext Iff.rfl
theorem seqD_ret (f : Array DV → VHeap → (Ex → Array DV → VHeap → Prop) → Prop) (K : Ex → Array DV → VHeap → Prop) (ts : Array DV) (H : VHeap) : seqD f K .ret ts H = K .ret ts H := propext Iff.rfl
theorem blockD_normal (id : Nat) (K : Ex → Array DV → VHeap → Prop) (ts : Array DV) (H : VHeap) : blockD id K .normal ts H = K .normal ts H := propext Iff.rfl
theorem blockD_ret (id : Nat) (K : Ex → Array DV → VHeap → Prop) (ts : Array DV) (H : VHeap) : blockD id K .ret ts H = K .ret ts H := propext Iff.rfl
theorem blockD_hit (id : Nat) (K : Ex → Array DV → VHeap → Prop) (ts : Array DV) (H : VHeap) : blockD id K (.exit id) ts H = K .normal ts H := by simp [blockD]
theorem blockD_miss {id j : Nat} (h : j ≠ id) (K : Ex → Array DV → VHeap → Prop) (ts : Array DV) (H : VHeap) : blockD id K (.exit j) ts H = K (.exit j) ts H := by simp [blockD, h]
theorem endD_ret (P : Program) (V0 : VHeap) (mv : Bool) (rs : List ResultVar) (Q : DV → VHeap → Prop) (ts : Array DV) (H : VHeap) : endD P V0 mv rs Q .ret ts H = obind (resultsD P rs ts H) fun vs => obind (leaveD V0 mv vs H) fun r => Q (packD r.1) r.2 := propext Iff.rfl
theorem endD_normal (P : Program) (V0 : VHeap) (mv : Bool) (rs : List ResultVar) (Q : DV → VHeap → Prop) (ts : Array DV) (H : VHeap) : endD P V0 mv rs Q .normal ts H = obind (resultsD P rs ts H) fun vs => obind (leaveD V0 mv vs H) fun r => Q (packD r.1) r.2 := propext Iff.rfl

/-! Calls -/
/-- What is so of one answer, is said of the call. -/
theorem VEv_eq {P : Program} {tab : Tab} {orc : VOrc} {f : FuncId} {mv : Bool} {args : List DV} {H H' : VHeap} {r : DV} (h : VEv P tab orc f mv args H fun r' H'' => r' = r ∧ H'' = H') (Q : DV → VHeap → Prop) : VEv P tab orc f mv args H Q = Q r H' := by
  obtain ⟨k, v, W, h1, rfl, rfl⟩ := h
  refine propext ⟨fun ⟨k2, v2, W2, h2, hq⟩ => ?_, fun hq => ⟨k, v, W, h1, hq⟩⟩
  have a1 := vrun_mono P tab orc k (max k k2) (Nat.le_max_left _ _) _ _ _ _ _ h1
  have a2 := vrun_mono P tab orc k2 (max k k2) (Nat.le_max_right _ _) _ _ _ _ _ h2
  rw [a1] at a2
  injection a2 with a2; injection a2 with e1 e2; subst e1; subst e2
  exact hq
theorem VCl_eq {P : Program} {tab : Tab} {orc : VOrc} {self f : FuncId} {args : List DV} {H : VHeap} {Q : DV → VHeap → Prop} (hm : (tab self f).refs = false) :
    VCl P tab orc self f args H Q = obind (mapO (fz H 0 false fzN) args) fun args' => VEv P tab orc f (tab self f).move args' (lockAll (args.flatMap (seen H 0 false fzN)) H) (unlockK H Q) := by
  refine propext ⟨fun ⟨k, v, H', h1, h2⟩ => ?_, fun h => ?_⟩
  · unfold vcall at h1
    rw [hm] at h1
    simp only [Bool.false_eq_true, if_false] at h1
    cases ha : mapO (fz H 0 false fzN) args with
    | none => rw [ha] at h1; cases h1
    | some args' =>
      rw [ha] at h1
      simp only at h1
      cases hr : vrun P tab orc k f (tab self f).move args' (lockAll (args.flatMap (seen H 0 false fzN)) H) with
      | none => rw [hr] at h1; cases h1
      | some y =>
        obtain ⟨r, H2⟩ := y
        rw [hr] at h1
        refine ⟨k, r, H2, hr, ?_⟩
        unfold unlockK
        simp only at h1
        split at h1
        · rename_i hc; injection h1 with h1; injection h1 with e1 e2; subst e1; subst e2; rw [if_pos hc]; exact h2
        · rename_i hc; injection h1 with h1; injection h1 with e1 e2; subst e1; subst e2; rw [if_neg hc]; exact h2
  · obtain ⟨args', ha, h⟩ := obind_elim h
    exact VCl_of hm ha h
theorem VCl_ref {P : Program} {tab : Tab} {orc : VOrc} {self f : FuncId} {args : List DV} {H : VHeap} {Q : DV → VHeap → Prop} (hm : (tab self f).refs = true) : VCl P tab orc self f args H Q = VEv P tab orc f (tab self f).move args H Q := by
  refine propext ⟨fun ⟨k, v, H', h1, h2⟩ => ⟨k, v, H', by unfold vcall at h1; rw [hm] at h1; simpa using h1, h2⟩, VCl_refs hm⟩

/-! Blocks behind a heap -/
section
variable (H : VHeap)
theorem get_app0 (bs : VHeap) : (H ++ bs)[List.length H]? = bs[0]? := by
  rw [List.getElem?_append_right (Nat.le_refl _), Nat.sub_self]
theorem get_app (bs : VHeap) (k : Nat) : (H ++ bs)[List.length H + k]? = bs[k]? := by
  rw [List.getElem?_append_right (Nat.le_add_right _ _), Nat.add_sub_cancel_left]
theorem set_app0 (bs : VHeap) (b : VBlk) : (H ++ bs).set (List.length H) b = H ++ bs.set 0 b := by
  rw [List.set_append_right _ _ (Nat.le_refl _), Nat.sub_self]
theorem set_app (bs : VHeap) (k : Nat) (b : VBlk) : (H ++ bs).set (List.length H + k) b = H ++ bs.set k b := by
  rw [List.set_append_right _ _ (Nat.le_add_right _ _), Nat.add_sub_cancel_left]
theorem leaveB_same (f : DV → Option DV) (b : VBlk) : leaveB f b b = some b := by cases b <;> simp [leaveB]
theorem leaveH_app (f : DV → Option DV) : ∀ (A B B' : VHeap), leaveH f (A ++ B) (A ++ B') = (leaveH f B B').map (A ++ ·)
  | [], B, B' => by simp
  | a :: A, B, B' => by
    simp only [List.cons_append, leaveH, leaveB_same, leaveH_app f A B B']
    cases leaveH f B B' <;> rfl
theorem leaveH_ext (f : DV → Option DV) (B : VHeap) : leaveH f H (H ++ B) = some H := by
  have := leaveH_app f H [] B
  simpa [leaveH] using this
theorem leaveH_self (f : DV → Option DV) : leaveH f H H = some H := by
  have := leaveH_ext H f []
  simpa using this
theorem leave_plain (B : VHeap) (vs : List DV) : leaveD H false vs (H ++ B) = (mapO (fz (H ++ B) (List.length H) true fzN) vs).map fun r => (r, H) := by
  unfold leaveD
  rw [leaveH_ext]; rfl
theorem leave_same (vs : List DV) : leaveD H false vs H = (mapO (fz H (List.length H) true fzN) vs).map fun r => (r, H) := by
  unfold leaveD
  rw [leaveH_self]; rfl
theorem seenH_app (s : DV → List Nat) : ∀ (A B B' : VHeap), seenH s (A ++ B) (A ++ B') = seenH s B B'
  | [], B, B' => by simp
  | a :: A, B, B' => by
    simp only [List.cons_append, seenH, seenH_app s A B B']
    have : seenB s a a = [] := by cases a <;> simp [seenB]
    rw [this, List.nil_append]
theorem seenH_ext (s : DV → List Nat) (B : VHeap) : seenH s H (H ++ B) = [] := by
  have := seenH_app s H [] B
  rw [List.append_nil] at this
  rw [this]; cases B <;> rfl
/-- One row is handed on. -/
theorem leave_own {B : VHeap} {vs : List DV} {j id g off n cap sz : Nat} {c : List DV} {m : Md} {ver : Nat} {r c' : List DV} (ho : ownOf (List.length H) vs = some (j, id, g, off, n, cap, sz)) (hb : (H ++ B)[id]? = some (.cells c m false g ver))
    (hs : (((vs.set j undefD) ++ c).flatMap (seen (H ++ B) (List.length H) true fzN)).contains id = false) (hr : mapO (fz (H ++ B) (List.length H) true fzN) (vs.set j undefD) = some r) (hc : mapO (fz (H ++ B) (List.length H) true fzN) c = some c') :
    leaveD H true vs (H ++ B) = some (r.set j (.slc (List.length H) 0 off n cap sz), H ++ [.cells c' m false 0 0]) := by
  unfold leaveD
  rw [leaveH_ext]
  simp only [if_true, ho, hb, seenH_ext, List.append_nil, true_and]
  rw [if_pos hs, hr, hc]
theorem leave_none {B : VHeap} {vs : List DV} (ho : ownOf (List.length H) vs = none) : leaveD H true vs (H ++ B) = (mapO (fz (H ++ B) (List.length H) true fzN) vs).map fun r => (r, H) := by
  unfold leaveD
  rw [leaveH_ext]
  simp only [if_true, ho]
theorem verOf_lock1 (id j : Nat) : verOf (lock1 H id) j = verOf H j := by
  unfold lock1
  cases hb : H[id]? with
  | none => rfl
  | some b =>
    simp only
    rw [verOf_set]
    split
    · rename_i e; subst e; rw [hb]; unfold verOf; rw [hb]; cases b <;> rfl
    · rfl
theorem verOf_lockAll : ∀ (ids : List Nat) (H : VHeap) (j : Nat), verOf (lockAll ids H) j = verOf H j
  | [], H, j => rfl
  | id :: r, H, j => by rw [lockAll, verOf_lockAll r, verOf_lock1]
theorem length_lock1 (id : Nat) : (lock1 H id).length = H.length := by
  unfold lock1
  cases H[id]? <;> simp
theorem length_lockAll : ∀ (ids : List Nat) (H : VHeap), (lockAll ids H).length = H.length
  | [], H => rfl
  | id :: r, H => by rw [lockAll, length_lockAll r, length_lock1]
theorem sameVers_lock (ids : List Nat) : sameVers H (lockAll ids H) = true := by
  unfold sameVers
  rw [List.all_eq_true]
  intro j _
  simp [verOf_lockAll]
theorem unlockK_lock (Q : DV → VHeap → Prop) (r : DV) (ids : List Nat) : unlockK H Q r (lockAll ids H) = Q r (if flatD r = true then H else lockAll ids H) := by
  rw [unlockK_eq, sameVers_lock, length_lockAll]
  simp
theorem lockAll_nil : lockAll [] H = H := rfl
end

/-! Rows of elements -/
class Wid {α : Type} (c : α → List Dat) (n : outParam Nat) : Prop where
  w : ∀ a, (c a).length = n
/-- It is no nil row. -/
def nn : Dat → Bool
  | .v (.slice none _ _) => false
  | _ => true
class Nn {α : Type} (c : α → List Dat) : Prop where
  nn : ∀ a, (c a).all nn = true
def rowsOf {α : Type} (c : α → List Dat) (l : List α) : Dat := .rows (l.map c)
def blkOf {α : Type} (c : α → List Dat) (l : List α) : List DV := (l.flatMap c).map .d
def cI (k : IntKind) (x : Int) : List Dat := [.v (.int k x)]
def cB (b : Bool) : List Dat := [.v (.bool b)]
instance (k : IntKind) : Wid (cI k) 1 := ⟨fun _ => rfl⟩
instance (k : IntKind) : Nn (cI k) := ⟨fun _ => rfl⟩
instance : Wid cB 1 := ⟨fun _ => rfl⟩
instance : Nn cB := ⟨fun _ => rfl⟩

section
variable (H : VHeap) (lo : Nat) (pt : Bool) (k : Nat)
theorem fz_v (y : Value) : fz H lo pt (k + 1) (.d (.v y)) = match y with
      | .slice none n cap => if n = 0 ∧ cap = 0 then some (.d (.rows [])) else none
      | _ => some (.d (.v y)) := rfl
theorem fz_rows (l : List (List Dat)) : fz H lo pt (k + 1) (.d (.rows l)) = some (.d (.rows l)) := rfl
theorem fz_fptr (r : List Dat) (o : Nat) : fz H lo pt (k + 1) (.fptr r o) = some (.fptr r o) := rfl
theorem fz_ptr (id g off : Nat) : fz H lo pt (k + 1) (.ptr id g off) = if id < lo ∨ pt = false then some (.ptr id g off) else ((cellsOf H id g).bind fun c => (mapO (fz H lo pt k) c).bind datasOf).map fun r => .fptr r off := rfl
theorem fz_slcE (id g off n cap sz : Nat) : fz H lo pt (k + 1) (.slc id g off n cap sz) = if id < lo then some (.slc id g off n cap sz) else (cellsOf H id g).bind fun c => if off + n * sz ≤ c.length ∧ 0 < sz ∧ fitsAt H id sz = true then ((mapO (fz H lo pt k) ((c.drop off).take (n * sz))).bind datasOf).map fun r => .d (.rows (chunk sz n r)) else none := rfl
theorem fz_map (id : Nat) : fz H lo pt (k + 1) (.map id) = if id < lo ∨ pt = false then some (.map id) else match H[id]? with
      | some (.map es _) => (mapO (fun e : Value × DV => (fz H lo pt k e.2).map fun y => (e.1, y)) es).map .fmap
      | _ => none := rfl
theorem fz_fmap (es : List (Value × DV)) : fz H lo pt (k + 1) (.fmap es) = (mapO (fun e : Value × DV => (fz H lo pt k e.2).map fun y => (e.1, y)) es).map .fmap := rfl
theorem fz_func (f : FuncId) (a c : List DV) : fz H lo pt (k + 1) (.func f a c) = if pt = false then some (.func f a c) else match mapO (fz H lo pt k) a, mapO (fz H lo pt k) c with
      | some a', some c' => some (.func f a' c')
      | _, _ => none := rfl
theorem fz_iface (t : TypeId) (y : DV) : fz H lo pt (k + 1) (.iface t y) = (fz H lo pt k y).map (.iface t) := rfl
theorem fz_agg (l : List DV) : fz H lo pt (k + 1) (.agg l) = (mapO (fz H lo pt k) l).map .agg := rfl
theorem fz_tuple (l : List DV) : fz H lo pt (k + 1) (.tuple l) = (mapO (fz H lo pt k) l).map .tuple := rfl
theorem seen_fptr (r : List Dat) (o : Nat) : seen H lo pt (k + 1) (.fptr r o) = [] := rfl
theorem seen_ptr (id g off : Nat) : seen H lo pt (k + 1) (.ptr id g off) = if id < lo ∨ pt = false then [] else id :: ((cellsOf H id g).getD []).flatMap (seen H lo pt k) := rfl
theorem seen_slc (id g off n cap sz : Nat) : seen H lo pt (k + 1) (.slc id g off n cap sz) = if id < lo then [] else id :: ((((cellsOf H id g).getD []).drop off).take (n * sz)).flatMap (seen H lo pt k) := rfl
theorem seen_func (f : FuncId) (a c : List DV) : seen H lo pt (k + 1) (.func f a c) = if pt = false then [] else a.flatMap (seen H lo pt k) ++ c.flatMap (seen H lo pt k) := rfl
theorem seen_iface (t : TypeId) (y : DV) : seen H lo pt (k + 1) (.iface t y) = seen H lo pt k y := rfl
theorem seen_agg (l : List DV) : seen H lo pt (k + 1) (.agg l) = l.flatMap (seen H lo pt k) := rfl
theorem seen_tuple (l : List DV) : seen H lo pt (k + 1) (.tuple l) = l.flatMap (seen H lo pt k) := rfl
end
theorem fz_d {H : VHeap} {lo : Nat} {pt : Bool} {k : Nat} {x : Dat} (h : nn x = true) : fz H lo pt (k + 1) (.d x) = some (.d x) := by
  cases x with
  | rows l => rfl
  | v y =>
    rw [fz_v]
    split
    · simp [nn] at h
    · rfl
theorem mapO_fz_d {H : VHeap} {lo : Nat} {pt : Bool} {k : Nat} : ∀ {l : List Dat}, l.all nn = true → mapO (fz H lo pt (k + 1)) (l.map .d) = some (l.map .d)
  | [], _ => rfl
  | x :: l, h => by
    simp only [List.all_cons, Bool.and_eq_true] at h
    simp only [List.map_cons, mapO, fz_d h.1, mapO_fz_d h.2]
theorem datasOf_d : ∀ (l : List Dat), datasOf (l.map .d) = some l
  | [] => rfl
  | x :: l => by simp [datasOf, datasOf_d l]
theorem seen_d {H : VHeap} {lo : Nat} {pt : Bool} {k : Nat} (x : Dat) : seen H lo pt k (.d x) = [] := by cases k <;> rfl
theorem seen_ds {H : VHeap} {lo : Nat} {pt : Bool} {k : Nat} : ∀ (l : List Dat), (l.map DV.d).flatMap (seen H lo pt k) = []
  | [] => rfl
  | x :: l => by rw [List.map_cons, List.flatMap_cons, seen_d, seen_ds l]; rfl

section rows
variable {α : Type} {c : α → List Dat} {n : Nat} [Wid c n]
theorem rows_all (l : List α) : ((l.map c).all fun r => decide (r.length = n)) = true := by
  rw [List.all_eq_true]
  intro r hr
  obtain ⟨a, _, rfl⟩ := List.mem_map.1 hr
  simp [Wid.w (c := c) a]
theorem flat_len (l : List α) : (l.flatMap c).length = l.length * n := by
  induction l with
  | nil => simp
  | cons a l ih => rw [List.flatMap_cons, List.length_append, ih, Wid.w (c := c) a, List.length_cons, Nat.add_mul, Nat.one_mul, Nat.add_comm]
theorem flat_nn [Nn c] (l : List α) : (l.flatMap c).all nn = true := by
  induction l with
  | nil => rfl
  | cons a l ih => rw [List.flatMap_cons, List.all_append, ih, Nn.nn (c := c) a]; rfl
theorem blk_len (l : List α) : (blkOf c l).length = l.length * n := by unfold blkOf; rw [List.length_map, flat_len]
theorem blk_nil : blkOf c [] = [] := rfl
theorem blk_app (l m : List α) : blkOf c l ++ blkOf c m = blkOf c (l ++ m) := by simp [blkOf]
theorem blk_scal (l : List α) (h : ∀ a, ((c a).map DV.d).all vscal = true) : (blkOf c l).all vscal = true := by
  induction l with
  | nil => rfl
  | cons a l ih =>
    have : blkOf c (a :: l) = (c a).map .d ++ blkOf c l := by simp [blkOf]
    rw [this, List.all_append, h a, ih]; rfl
theorem blk_drop (l : List α) (k : Nat) : (blkOf c l).drop (k * n) = blkOf c (l.drop k) := by
  induction l generalizing k with
  | nil => simp [blkOf]
  | cons a l ih =>
    cases k with
    | zero => simp
    | succ k =>
      have : blkOf c (a :: l) = (c a).map .d ++ blkOf c l := by simp [blkOf]
      rw [this, List.drop_append, List.length_map, Wid.w (c := c) a, Nat.add_mul, Nat.one_mul, Nat.add_sub_cancel, ih, List.drop_eq_nil_of_le (by simp [Wid.w (c := c) a]), List.nil_append, List.drop_succ_cons]
theorem blk_take (l : List α) (k : Nat) : (blkOf c l).take (k * n) = blkOf c (l.take k) := by
  induction l generalizing k with
  | nil => simp [blkOf]
  | cons a l ih =>
    cases k with
    | zero => simp [blkOf]
    | succ k =>
      have : ∀ l, blkOf c (a :: l) = (c a).map .d ++ blkOf c l := by simp [blkOf]
      rw [this, List.take_append, List.length_map, Wid.w (c := c) a, Nat.add_mul, Nat.one_mul, Nat.add_sub_cancel, ih, List.take_of_length_le (by simp [Wid.w (c := c) a]), List.take_succ_cons, this]
theorem chunk_flat (l : List α) : chunk n l.length (l.flatMap c) = l.map c := by
  induction l with
  | nil => rfl
  | cons a l ih =>
    rw [List.length_cons, List.flatMap_cons]
    simp only [chunk, List.map_cons]
    rw [List.take_append, List.drop_append, Wid.w (c := c) a, Nat.sub_self, List.take_zero, List.drop_zero, List.append_nil, List.take_of_length_le (by rw [Wid.w (c := c) a]; exact Nat.le_refl _), List.drop_eq_nil_of_le (by rw [Wid.w (c := c) a]; exact Nat.le_refl _), List.nil_append, ih]
theorem lenD_rows (l : List α) : lenD (.d (rowsOf c l)) = some l.length := by simp [lenD, rowsOf]
theorem firstD_rows {H : VHeap} (l : List α) (k : Nat) (h : k ≤ l.length) : firstD H n k (.d (rowsOf c l)) = some (blkOf c (l.take k)) := by
  unfold rowsOf
  simp only [firstD]
  rw [if_pos ⟨by simpa using h, rows_all l⟩]
  simp [blkOf, ← List.map_take, List.flatMap_def]
theorem firstD_rows_all {H : VHeap} (l : List α) : firstD H n l.length (.d (rowsOf c l)) = some (blkOf c l) := by rw [firstD_rows l _ (Nat.le_refl _), List.take_length]
theorem vlen_rows {P : Program} {t : TypeId} {H : VHeap} (l : List α) : vlen P t (.d (rowsOf c l)) H = (elemT P t).map fun _ => .d (.v (.int .i64 l.length)) := by simp [vlen, rowsOf, vint]
theorem toV_rows (l : List α) : toV (.d (rowsOf c l)) = none := rfl
theorem vindexAddr_rows {P : Program} {t : TypeId} {e by_ : Nat} (he : elemT P t = some (e, n, by_)) (l : List α) (k : IntKind) (i : Nat) : vindexAddr P t (.d (rowsOf c l)) (.d (.v (.int k i))) = (l[i]?).map fun a => .fptr (c a) 0 := by
  simp only [vindexAddr, toV, rowsOf, he]
  rw [if_pos (by omega)]
  simp only [Int.toNat_natCast, List.getElem?_map]
  cases l[i]? with
  | none => rfl
  | some a => simp [Wid.w (c := c) a]
theorem vindexAddr_rowsI {P : Program} {t : TypeId} {e by_ : Nat} (he : elemT P t = some (e, n, by_)) (l : List α) (k : IntKind) (i : Int) (h : 0 ≤ i) : vindexAddr P t (.d (rowsOf c l)) (.d (.v (.int k i))) = (l[i.toNat]?).map fun a => .fptr (c a) 0 := by
  obtain ⟨m, rfl⟩ : ∃ m : Nat, i = m := ⟨i.toNat, by omega⟩
  rw [vindexAddr_rows he, Int.toNat_natCast]
theorem bnd_int (k : IntKind) (a : Nat) {m : Nat} (h : a ≤ m) : boundV (.int k a) m = some a := boundV_int k a h
theorem vslice_rows {P : Program} {t : TypeId} {e by_ : Nat} {H : VHeap} (he : elemT P t = some (e, n, by_)) (l : List α) (j k : IntKind) (a b : Nat) (h1 : a ≤ b) (h2 : b ≤ l.length) :
    vslice P t (.d (rowsOf c l)) (some (.d (.v (.int j a)))) (some (.d (.v (.int k b)))) none H = some (.d (rowsOf c ((l.drop a).take (b - a)))) := by
  simp only [vslice, bndD, toV, Option.map_some, rowsOf, he]
  rw [if_pos (rows_all l)]
  unfold boundsV
  simp [boundV_int k b h2, boundV_int j a h1, List.map_take, List.map_drop]
theorem vslice_rows_lo {P : Program} {t : TypeId} {e by_ : Nat} {H : VHeap} (he : elemT P t = some (e, n, by_)) (l : List α) (j : IntKind) (a : Nat) (h1 : a ≤ l.length) :
    vslice P t (.d (rowsOf c l)) (some (.d (.v (.int j a)))) none none H = some (.d (rowsOf c (l.drop a))) := by
  simp only [vslice, bndD, toV, Option.map_some, rowsOf, he]
  rw [if_pos (rows_all l)]
  unfold boundsV
  have : (l.drop a).map c = ((l.map c).drop a).take (l.length - a) := by
    rw [List.take_of_length_le (by simp), List.map_drop]
  simp [boundV_int j a h1, this]
theorem vslice_rows_hi {P : Program} {t : TypeId} {e by_ : Nat} {H : VHeap} (he : elemT P t = some (e, n, by_)) (l : List α) (k : IntKind) (b : Nat) (h2 : b ≤ l.length) :
    vslice P t (.d (rowsOf c l)) none (some (.d (.v (.int k b)))) none H = some (.d (rowsOf c (l.take b))) := by
  simp only [vslice, bndD, toV, Option.map_some, rowsOf, he]
  rw [if_pos (rows_all l)]
  unfold boundsV
  simp [boundV_int k b h2, List.map_take]
/-- A block of elements, by value. -/
theorem fz_slc {H : VHeap} {lo id g cap : Nat} {pt : Bool} {k : Nat} {l : List α} [Nn c] (h1 : ¬ id < lo) (h2 : cellsOf H id g = some (blkOf c l)) (h3 : fitsAt H id n = true) (h4 : 0 < n) : fz H lo pt (k + 2) (.slc id g 0 l.length cap n) = some (.d (rowsOf c l)) := by
  rw [fz_slcE, if_neg h1, h2, Option.bind_some]
  rw [if_pos ⟨by rw [blk_len]; omega, h4, h3⟩, List.drop_zero, List.take_of_length_le (by rw [blk_len]; exact Nat.le_refl _)]
  unfold blkOf
  rw [mapO_fz_d (flat_nn l)]
  simp only [Option.bind_some, datasOf_d, Option.map_some, chunk_flat]
  rfl
theorem fz_slc_part {H : VHeap} {lo id g off m cap : Nat} {pt : Bool} {k : Nat} {l : List α} [Nn c] (h1 : ¬ id < lo) (h2 : cellsOf H id g = some (blkOf c l)) (h3 : fitsAt H id n = true) (h4 : 0 < n) (h5 : off + m ≤ l.length) : fz H lo pt (k + 2) (.slc id g (off * n) m cap n) = some (.d (rowsOf c ((l.drop off).take m))) := by
  rw [fz_slcE, if_neg h1, h2, Option.bind_some]
  have hlen : ((l.drop off).take m).length = m := by simp; omega
  rw [if_pos ⟨by rw [blk_len, ← Nat.add_mul]; exact Nat.mul_le_mul_right _ h5, h4, h3⟩, blk_drop, blk_take]
  unfold blkOf
  rw [mapO_fz_d (flat_nn _)]
  simp only [Option.bind_some, datasOf_d, Option.map_some]
  have := chunk_flat (c := c) ((l.drop off).take m)
  rw [hlen] at this
  rw [this]
  rfl
theorem seen_blk {H : VHeap} {lo : Nat} {pt : Bool} {k : Nat} (l : List α) : (blkOf c l).flatMap (seen H lo pt k) = [] := seen_ds _
end rows
end Go.Abs
/- The machine of values: the rules by which its conditions are reckoned out. -/
namespace Go.Abs
open Go Go.RowKit
set_option linter.unusedVariables false

@[go_sem] theorem lt_self_F (n : Nat) : (n < n) = False := by simp
@[go_sem] theorem add_lt_F (n k : Nat) : (n + k < n) = False := by simp
@[go_sem] theorem lt_zero_F (n : Nat) : (n < 0) = False := by simp
@[go_sem] theorem obind_someG {α : Type} (a : α) (k : α → Prop) : obind (some a) k = k a := propext Iff.rfl
@[go_sem] theorem ifB_trueG (A B : Prop) : ifB true A B = A := propext Iff.rfl
@[go_sem] theorem ifB_falseG (A B : Prop) : ifB false A B = B := propext Iff.rfl
attribute [go_sem] letK_eq condD_eq unlockK_same unlockK_lock lockAll_nil VCl_eq seqD_normal seqD_exit seqD_ret blockD_normal blockD_ret blockD_hit endD_ret endD_normal

theorem leave_any (H B : VHeap) (mv : Bool) (vs : List DV) (h : ownOf (List.length H) vs = none) : leaveD H mv vs (H ++ B) = (mapO (fz (H ++ B) (List.length H) true fzN) vs).map fun r => (r, H) := by
  cases mv with
  | false => exact leave_plain H B vs
  | true => exact leave_none H h
theorem leave_any_same (H : VHeap) (mv : Bool) (vs : List DV) (h : ownOf (List.length H) vs = none) : leaveD H mv vs H = (mapO (fz H (List.length H) true fzN) vs).map fun r => (r, H) := by
  have := leave_any H [] mv vs h
  simpa using this
attribute [go_sem] leave_any leave_any_same
section
variable (lo : Nat) (l : List DV)
@[go_sem] theorem ownOf_nil : ownOf lo [] = none := rfl
@[go_sem] theorem ownOf_d (x : Dat) : ownOf lo (.d x :: l) = (ownOf lo l).map fun e => (e.1 + 1, e.2) := rfl
@[go_sem] theorem ownOf_agg (x : List DV) : ownOf lo (.agg x :: l) = (ownOf lo l).map fun e => (e.1 + 1, e.2) := rfl
@[go_sem] theorem ownOf_func (f : FuncId) (a c : List DV) : ownOf lo (.func f a c :: l) = (ownOf lo l).map fun e => (e.1 + 1, e.2) := rfl
@[go_sem] theorem ownOf_iface (t : TypeId) (x : DV) : ownOf lo (.iface t x :: l) = (ownOf lo l).map fun e => (e.1 + 1, e.2) := rfl
@[go_sem] theorem ownOf_ptr (a b c : Nat) : ownOf lo (.ptr a b c :: l) = (ownOf lo l).map fun e => (e.1 + 1, e.2) := rfl
@[go_sem] theorem ownOf_fptr (r : List Dat) (c : Nat) : ownOf lo (.fptr r c :: l) = (ownOf lo l).map fun e => (e.1 + 1, e.2) := rfl
@[go_sem] theorem ownOf_map (a : Nat) : ownOf lo (.map a :: l) = (ownOf lo l).map fun e => (e.1 + 1, e.2) := rfl
@[go_sem] theorem ownOf_slc (id g off n cap sz : Nat) : ownOf lo (.slc id g off n cap sz :: l) = if lo ≤ id then some (0, id, g, off, n, cap, sz) else (ownOf lo l).map fun e => (e.1 + 1, e.2) := rfl
end

/-! One by one -/
theorem letK_step {α : Type} {a : α} {k : α → Prop} (h : k a) : letK a k := h
theorem letK_of {α : Type} {a a' : α} {k : α → Prop} (h : a = a') (hk : k a') : letK a k := by rw [h]; exact hk
theorem condD_of {v : DV} {b : Bool} {A B : Prop} (h : v = .d (.v (.bool b))) (hb : ifB b A B) : condD v A B := by rw [h]; exact hb
theorem VCl_step {P : Program} {tab : Tab} {orc : VOrc} {self f f' : FuncId} {args args0 args' : List DV} {H H' : VHeap} {mv : Bool} {Q : DV → VHeap → Prop} (hf : f = f') (h0 : args = args0) (hm : (tab self f').refs = false) (hv : (tab self f').move = mv) (ha : mapO (fz H 0 false fzN) args0 = some args') (hl : lockAll (args0.flatMap (seen H 0 false fzN)) H = H')
    (h : VEv P tab orc f' mv args' H' (unlockK H Q)) : VCl P tab orc self f args H Q := by subst hf; subst h0; exact VCl_of hm ha (by rw [hl, hv]; exact h)
section
variable {P : Program} {t : TypeId} {H : VHeap}
@[go_sem] theorem toV_v (x : Value) : toV (.d (.v x)) = some x := rfl
@[go_sem] theorem toV_rows' (l : List (List Dat)) : toV (.d (.rows l)) = none := rfl
@[go_sem] theorem toV_agg (l : List DV) : toV (.agg l) = (cellsV l).map fun c => .agg ⟨c⟩ := rfl
@[go_sem] theorem toV_ptr (id g o : Nat) : toV (.ptr id g o) = none := rfl
@[go_sem] theorem toV_fptr (r : List Dat) (o : Nat) : toV (.fptr r o) = none := rfl
@[go_sem] theorem toV_slc (id g o n c s : Nat) : toV (.slc id g o n c s) = none := rfl
@[go_sem] theorem toV_ifv (t : TypeId) (x : Value) : toV (.iface t (.d (.v x))) = some (.iface t x) := rfl
@[go_sem] theorem toV_ifa (t : TypeId) (l : List DV) : toV (.iface t (.agg l)) = (cellsV l).map fun c => .iface t (.agg ⟨c⟩) := rfl
@[go_sem] theorem toV_func (f : FuncId) (a c : List DV) : toV (.func f a c) = match cellsV a, cellsV c with
    | some x, some y => some (.func (.func f) ⟨x⟩ ⟨y⟩)
    | _, _ => none := rfl
@[go_sem] theorem vlen_slc (id g o n c s : Nat) : vlen P t (.slc id g o n c s) H = (elemT P t).map fun _ => .d (.v (.int .i64 n)) := rfl
@[go_sem] theorem vlen_rowsE (l : List (List Dat)) : vlen P t (.d (.rows l)) H = (elemT P t).map fun _ => .d (.v (.int .i64 l.length)) := rfl
@[go_sem] theorem vlen_nil (n c : Nat) : vlen P t (.d (.v (.slice none n c))) H = (alen P t (.slice none n c) Heap.nil).map dv := rfl
@[go_sem] theorem vlen_str (s : ByteArray) : vlen P t (.d (.v (.string s))) H = (alen P t (.string s) Heap.nil).map dv := rfl
@[go_sem] theorem alen_nil (n c : Nat) (G : Heap) : alen P t (.slice none n c) G = (elemT P t).map fun _ => .int .i64 n := rfl
@[go_sem] theorem vlen_agg (l : List DV) : vlen P t (.agg l) H = (arrT P t).map fun x => .d (.v (.int .i64 x.1)) := rfl
@[go_sem] theorem vlen_ptr (id g o : Nat) : vlen P t (.ptr id g o) H = match P.underlying t with
    | some (.pointer a) => (arrT P a).map fun x => .d (.v (.int .i64 x.1))
    | some (.array n _) => some (.d (.v (.int .i64 n)))
    | _ => none := rfl
@[go_sem] theorem vlen_map (id : Nat) : vlen P t (.map id) H = match H[id]?, mapT P t with
    | some (.map es _), some _ => some (.d (.v (.int .i64 es.length)))
    | _, _ => none := rfl
@[go_sem] theorem vindexAddr_ptr (id g off : Nat) (k : IntKind) (i : Int) : vindexAddr P t (.ptr id g off) (.d (.v (.int k i))) = match arrT P t with
      | some (n, e, size) => if 0 ≤ i ∧ i < n then some (.ptr id g (off + i.toNat * size)) else none
      | none => none := rfl
@[go_sem] theorem vindexAddr_fptr (r : List Dat) (off : Nat) (k : IntKind) (i : Int) : vindexAddr P t (.fptr r off) (.d (.v (.int k i))) = match arrT P t with
      | some (n, e, size) => if 0 ≤ i ∧ i < n then some (.fptr r (off + i.toNat * size)) else none
      | none => none := rfl
@[go_sem] theorem vindexAddr_slc (id g off len cap sz : Nat) (k : IntKind) (i : Int) : vindexAddr P t (.slc id g off len cap sz) (.d (.v (.int k i))) = match elemT P t with
      | some (e, size, _) => if 0 ≤ i ∧ i < len then some (.ptr id g (off + i.toNat * size)) else none
      | none => none := rfl
@[go_sem] theorem lenD_slc (id g o n c s : Nat) : lenD (.slc id g o n c s) = some n := rfl
@[go_sem] theorem lenD_rowsE (l : List (List Dat)) : lenD (.d (.rows l)) = some l.length := rfl
@[go_sem] theorem lenD_v (x : Value) : lenD (.d (.v x)) = lenV x := rfl
@[go_sem] theorem fz_rowsOf {lo : Nat} {pt : Bool} {k : Nat} {α : Type} (c : α → List Dat) (l : List α) : fz H lo pt (k + 1) (.d (rowsOf c l)) = some (.d (rowsOf c l)) := rfl
@[go_sem] theorem flat1_v (x : Value) : flat1 (.d (.v x)) = true := rfl
@[go_sem] theorem vcells_rowsOf {α : Type} (c : α → List Dat) (l : List α) : vcells (.d (rowsOf c l)) = [.d (rowsOf c l)] := rfl
@[go_sem] theorem vcells_v (x : Value) : vcells (.d (.v x)) = zD x := rfl
@[go_sem] theorem vcells_agg (l : List DV) : vcells (.agg l) = l := rfl
@[go_sem] theorem vcells_slc (id g o n c s : Nat) : vcells (.slc id g o n c s) = [.slc id g o n c s] := rfl
@[go_sem] theorem vcells_ptr (id g o : Nat) : vcells (.ptr id g o) = [.ptr id g o] := rfl
@[go_sem] theorem vcells_func (f : FuncId) (a c : List DV) : vcells (.func f a c) = [.func f a c] := rfl
@[go_sem] theorem vcells_iface (t : TypeId) (x : DV) : vcells (.iface t x) = [.iface t x] := rfl
@[go_sem] theorem vcells_map (id : Nat) : vcells (.map id) = [.map id] := rfl
@[go_sem] theorem vscal_rowsOf {α : Type} (c : α → List Dat) (l : List α) : vscal (.d (rowsOf c l)) = true := rfl
@[go_sem] theorem flatD_rowsOf {α : Type} (c : α → List Dat) (l : List α) : flatD (.d (rowsOf c l)) = false := rfl
@[go_sem] theorem flat1_rowsOf {α : Type} (c : α → List Dat) (l : List α) : flat1 (.d (rowsOf c l)) = false := rfl
@[go_sem] theorem cellV_rowsOf {α : Type} (c : α → List Dat) (l : List α) : cellV (.d (rowsOf c l)) = none := rfl
end
attribute [go_sem] zD cellsV toVs ofV ofV0 dv vint vbool vboolV vtupleV vfuncV vifaceV vnonNil undefD Value.cells
attribute [go_sem] vload vloadC vstore vstoreAt cellsOf writeD fillD vbuild repeatD vbuildS newD lenS chunk vcopy vlen1 vmapOk vifaceOf vfieldAddr vfield partD vindex vbin vun bndD resultsD oneD packD scal lockAll lock1 VBlk.lock VBlk.ver mapO datasOf depV depOk leave_plain leave_same keyL vget vlookup vmapUpd vupdate vgrow fitsAt Md.fits
attribute [go_sem] abin_add abin_sub abin_mul abin_lss abin_leq abin_gtr abin_geq abin_eql abin_neq abin_and abin_or abin_xor abin_andNot unV_not unV_neg unV_xor
attribute [go_sem] fz_v fz_rows fz_fptr fz_ptr fz_slcE fz_map fz_fmap fz_func fz_iface fz_agg fz_tuple seen_d seen_ds seen_fptr seen_ptr seen_slc seen_func seen_iface seen_agg seen_tuple seen_blk mapO_fz_d datasOf_d fzN
attribute [go_sem] get_app0 get_app set_app0 set_app verOf
attribute [go_sem] lenD_rows vlen_rows toV_rows firstD_rows_all blk_len
attribute [go_sem] List.append_assoc List.cons_append List.nil_append List.append_nil List.length_append List.length_cons List.length_nil List.length_map List.getElem?_cons_zero List.getElem?_cons_succ List.set_cons_zero List.set_cons_succ List.flatMap_cons List.flatMap_nil List.map_cons List.map_nil List.drop_zero List.drop_succ_cons List.take_zero List.take_succ_cons List.take_nil List.drop_nil List.all_cons List.all_nil List.any_cons List.any_nil List.toList_toArray
attribute [go_sem] Option.map_some Option.map_none Option.bind_some Option.bind_none Option.getD_some Option.getD_none
attribute [go_sem] true_and and_true false_and and_false or_false false_or or_true true_or if_true if_false ite_true ite_false ite_self ne_eq not_false_eq_true not_true_eq_false Bool.and_true Bool.true_and Bool.and_false Bool.false_and Bool.not_true Bool.not_false Bool.false_eq_true eq_self Nat.zero_add Nat.add_zero Nat.zero_mul Nat.mul_one Nat.one_mul Nat.sub_zero Nat.zero_le Nat.le_refl decide_true decide_false Bool.or_false Bool.false_or Bool.or_true Bool.true_or

@[go_sem] theorem vscal_v' (x : Value) : vscal (.d (.v x)) = scal x := (rfl)
@[go_sem] theorem vscal_rowsE' (l : List (List Dat)) : vscal (.d (.rows l)) = true := (rfl)
@[go_sem] theorem vscal_agg' (l : List DV) : vscal (.agg l) = false := (rfl)
@[go_sem] theorem vscal_tuple' (l : List DV) : vscal (.tuple l) = false := (rfl)
@[go_sem] theorem vscal_slc' (id g o n c s : Nat) : vscal (.slc id g o n c s) = true := (rfl)
@[go_sem] theorem vscal_ptr' (id g o : Nat) : vscal (.ptr id g o) = true := (rfl)
@[go_sem] theorem vscal_fptr' (r : List Dat) (o : Nat) : vscal (.fptr r o) = true := (rfl)
@[go_sem] theorem vscal_func' (f : FuncId) (a c : List DV) : vscal (.func f a c) = true := (rfl)
@[go_sem] theorem vscal_iface' (t : TypeId) (x : DV) : vscal (.iface t x) = true := (rfl)
@[go_sem] theorem vscal_map' (id : Nat) : vscal (.map id) = true := (rfl)
@[go_sem] theorem flatD_v' (x : Value) : flatD (.d (.v x)) = true := (rfl)
@[go_sem] theorem flatD_rowsE' (l : List (List Dat)) : flatD (.d (.rows l)) = false := (rfl)
@[go_sem] theorem flatD_agg' (l : List DV) : flatD (.agg l) = l.all flat1 := (rfl)
@[go_sem] theorem flatD_tuple' (l : List DV) : flatD (.tuple l) = l.all flat1 := (rfl)
@[go_sem] theorem flatD_slc' (id g o n c s : Nat) : flatD (.slc id g o n c s) = false := (rfl)
@[go_sem] theorem flatD_ptr' (id g o : Nat) : flatD (.ptr id g o) = false := (rfl)
@[go_sem] theorem flatD_func' (f : FuncId) (a c : List DV) : flatD (.func f a c) = false := (rfl)
@[go_sem] theorem flatD_iface' (t : TypeId) (x : DV) : flatD (.iface t x) = false := (rfl)
@[go_sem] theorem flatD_map' (id : Nat) : flatD (.map id) = false := (rfl)
@[go_sem] theorem flat1_v' (x : Value) : flat1 (.d (.v x)) = true := (rfl)
@[go_sem] theorem flat1_rowsE' (l : List (List Dat)) : flat1 (.d (.rows l)) = false := (rfl)
@[go_sem] theorem flat1_agg' (l : List DV) : flat1 (.agg l) = false := (rfl)
@[go_sem] theorem flat1_tuple' (l : List DV) : flat1 (.tuple l) = false := (rfl)
@[go_sem] theorem flat1_slc' (id g o n c s : Nat) : flat1 (.slc id g o n c s) = false := (rfl)
@[go_sem] theorem flat1_ptr' (id g o : Nat) : flat1 (.ptr id g o) = false := (rfl)
@[go_sem] theorem flat1_func' (f : FuncId) (a c : List DV) : flat1 (.func f a c) = false := (rfl)
@[go_sem] theorem flat1_iface' (t : TypeId) (x : DV) : flat1 (.iface t x) = false := (rfl)
@[go_sem] theorem cellV_v' (x : Value) : cellV (.d (.v x)) = some x := (rfl)
@[go_sem] theorem cellV_rowsE' (l : List (List Dat)) : cellV (.d (.rows l)) = none := (rfl)
@[go_sem] theorem cellV_agg' (l : List DV) : cellV (.agg l) = none := (rfl)
@[go_sem] theorem cellV_tuple' (l : List DV) : cellV (.tuple l) = none := (rfl)
@[go_sem] theorem cellV_slc' (id g o n c s : Nat) : cellV (.slc id g o n c s) = none := (rfl)
@[go_sem] theorem cellV_ptr' (id g o : Nat) : cellV (.ptr id g o) = none := (rfl)
@[go_sem] theorem cellV_fptr' (r : List Dat) (o : Nat) : cellV (.fptr r o) = none := (rfl)
@[go_sem] theorem cellV_func' (f : FuncId) (a c : List DV) : cellV (.func f a c) = none := (rfl)
@[go_sem] theorem cellV_iface' (t : TypeId) (x : DV) : cellV (.iface t x) = none := (rfl)
@[go_sem] theorem cellV_map' (id : Nat) : cellV (.map id) = none := (rfl)
@[go_sem] theorem isSlc_rowsE' (l : List (List Dat)) : isSlc (.d (.rows l)) = true := (rfl)
@[go_sem] theorem isSlc_slc' (id g o n c s : Nat) : isSlc (.slc id g o n c s) = true := (rfl)
@[go_sem] theorem isSlc_rowsOf {α : Type} (c : α → List Dat) (l : List α) : isSlc (.d (rowsOf c l)) = true := (rfl)
@[go_sem] theorem hard_slc' (id g o n c s : Nat) : hard (.slc id g o n c s) = true := (rfl)
@[go_sem] theorem hard_ptr' (id g o : Nat) : hard (.ptr id g o) = true := (rfl)
@[go_sem] theorem hard_fptr' (r : List Dat) (o : Nat) : hard (.fptr r o) = true := (rfl)
@[go_sem] theorem hard_map' (id : Nat) : hard (.map id) = true := (rfl)
/-! Rows that grow -/
section grow
variable {P : Program} {α : Type} {c : α → List Dat} {n : Nat} [Wid c n]
structure AppT (P : Program) (t xt : TypeId) (c : α → List Dat) (e n by_ : Nat) : Prop where
  he : elemT P t = some (e, n, by_)
  hx : isIntT P xt = some false
  hz : ∃ z, zeroT P e = some z ∧ (zD z).length = n
  hs : ∀ a, ((c a).map DV.d).all vscal = true
  hb : 0 < by_ ∧ 0 < n ∧ by_ ≤ 2 ^ 20
theorem mapO_blk [Nn c] {H : VHeap} {lo : Nat} {pt : Bool} {k : Nat} (l : List α) : mapO (fz H lo pt (k + 1)) (blkOf c l) = some (blkOf c l) := mapO_fz_d (flat_nn l)
theorem vappend_gen {t xt : TypeId} {e by_ k : Nat} (T : AppT P t xt c e n by_) {s x : DV} {H H1 : VHeap} {l : List α} {xs : List DV} (hl : lenD x = some k) (hf : firstD H n k x = some xs) (hz : mapO (fz H 0 false fzN) xs = some (blkOf c l)) (hL : lockAll (xs.flatMap (seen H 0 false fzN)) H = H1)
    (hb : (lenS s + k) * by_ ≤ 2 ^ 44) : vappend P #[t, xt] [s, x] H = vgrow e n k s (blkOf c l) H1 := by
  obtain ⟨he, hx, ⟨z, hz1, hz2⟩, hs, hb0, hb1, hb2⟩ := T
  unfold vappend newD
  simp only [he, hx, hl, hf, hz1, hz, Bool.false_eq_true, if_false, Option.map_some]
  rw [if_pos ⟨hz2, blk_scal l hs, hb0, hb1, hb2, hb⟩, hL]
theorem vappend_rows [Nn c] {t xt : TypeId} {e by_ : Nat} (T : AppT P t xt c e n by_) {s : DV} {H : VHeap} {l : List α} (hb : (lenS s + l.length) * by_ ≤ 2 ^ 44) : vappend P #[t, xt] [s, .d (rowsOf c l)] H = vgrow e n l.length s (blkOf c l) H :=
  vappend_gen T (lenD_rows l) (firstD_rows_all l) (mapO_blk (k := 5) l) (by rw [seen_blk]; rfl) hb
theorem vgrow_nil {e k : Nat} {xs : List DV} {H : VHeap} : vgrow e n k (.d (.v (.slice none 0 0))) xs H = if k = 0 then some (.d (.v (.slice none 0 0)), H) else some (.slc H.length 0 0 k k n, H ++ [.cells xs (.grown n) false 0 0]) := by
  simp [vgrow]
theorem vgrow_empty {e k id g off sz : Nat} {xs : List DV} {H : VHeap} {c0 : List DV} {lk : Bool} {ver : Nat} (h : H[id]? = some (.cells c0 .fix lk g ver)) : vgrow e n k (.slc id g off 0 0 sz) xs H = if k = 0 then some (.slc id g off 0 0 sz, H) else some (.slc H.length 0 0 k k n, H ++ [.cells xs (.grown n) false 0 0]) := by
  unfold vgrow
  by_cases hk : k = 0
  · subst hk; simp
  · rw [if_neg hk]
    simp only [Nat.zero_add]
    rw [if_neg (by omega)]
    simp [h, firstD]
theorem vgrow_grown {e k id g ver : Nat} {l0 : List α} {xs : List DV} {H : VHeap} (hk : k ≠ 0) (h : H[id]? = some (.cells (blkOf c l0) (.grown n) false g ver)) : vgrow e n k (.slc id g 0 l0.length l0.length n) xs H = some (.slc id (g + 1) 0 (l0.length + k) (l0.length + k) n, H.set id (.cells (blkOf c l0 ++ xs) (.grown n) false (g + 1) (ver + 1))) := by
  have hc : cellsOf H id g = some (blkOf c l0) := by unfold cellsOf; rw [h]; simp
  unfold vgrow
  simp only
  rw [if_neg (by omega), h]
  simp only [and_self, if_true]
  have : firstD H n l0.length (.slc id g 0 l0.length l0.length n) = some (blkOf c l0) := by
    simp only [firstD, hc, Option.bind_some]
    by_cases h0 : l0.length = 0
    · have : l0 = [] := List.eq_nil_of_length_eq_zero h0
      subst this; simp [blkOf]
    · rw [if_neg h0, if_pos (by rw [blk_len]; omega), List.drop_zero, List.take_of_length_le (by rw [blk_len]; exact Nat.le_refl _)]
  rw [this]; rfl
end grow
@[go_sem] theorem nilEq_slc (P : Program) (t : TypeId) (id g o n c s a b : Nat) : nilEqD P t (.slc id g o n c s) (.d (.v (.slice none a b))) = match P.underlying t with
    | some (.slice _) => some false
    | _ => none := by unfold nilEqD; cases P.underlying t with
    | none => rfl
    | some d => cases d <;> rfl
theorem nilEq_rows {P : Program} {t e : TypeId} {α : Type} {c : α → List Dat} {l : List α} (hu : P.underlying t = some (.slice e)) (h : l ≠ []) : nilEqD P t (.d (rowsOf c l)) (.d (.v (.slice none 0 0))) = some false := by
  cases l with
  | nil => exact absurd rfl h
  | cons a l => simp [nilEqD, rowsOf, hu]
theorem vslice_slc_lo {P : Program} {t : TypeId} {e size by_ id g off n cap sz a : Nat} {j : IntKind} {H : VHeap} {c : List DV} {m : Md} {lk : Bool} {ver : Nat} (he : elemT P t = some (e, size, by_)) (h : H[id]? = some (.cells c m lk g ver)) (hf : m.fits size = true) (h1 : a ≤ n) (h2 : n ≤ cap) :
    vslice P t (.slc id g off n cap sz) (some (.d (.v (.int j a)))) none none H = some (.slc id g (if cap = a then off else off + a * size) (n - a) (cap - a) size) := by
  simp only [vslice, bndD, toV, Option.map_some, h, he, if_true]
  unfold boundsV
  simp [boundV_int j a h1, hf]
theorem vslice_slc_hi {P : Program} {t : TypeId} {e size by_ id g off n cap sz a : Nat} {j : IntKind} {H : VHeap} {c : List DV} {m : Md} {lk : Bool} {ver : Nat} (he : elemT P t = some (e, size, by_)) (h : H[id]? = some (.cells c m lk g ver)) (h1 : a ≤ cap) :
    vslice P t (.slc id g off n cap sz) none (some (.d (.v (.int j a)))) none H = some (.slc id g off a cap size) := by
  simp only [vslice, bndD, toV, Option.map_some, h, he, if_true]
  unfold boundsV
  simp [boundV_int j a h1]
/-- Written over, from a place on. -/
def putL {α : Type} (l : List α) (i : Nat) (xs : List α) : List α := l.take i ++ xs ++ l.drop (i + xs.length)
theorem putL_len {α : Type} (l : List α) (i : Nat) (xs : List α) (h : i + xs.length ≤ l.length) : (putL l i xs).length = l.length := by simp [putL]; omega
theorem writeD_len : ∀ (vs c : List DV) (off : Nat), (writeD c off vs).length = c.length
  | [], c, off => rfl
  | v :: vs, c, off => by rw [writeD, writeD_len vs]; simp
theorem writeD_eq : ∀ (vs c : List DV) (off : Nat), off + vs.length ≤ c.length → writeD c off vs = putL c off vs
  | [], c, off, h => by simp [writeD, putL]
  | v :: vs, c, off, h => by
    simp only [List.length_cons] at h
    rw [writeD, writeD_eq vs _ _ (by simp; omega)]
    unfold putL
    apply List.ext_getElem?
    intro j
    simp only [List.length_cons]
    rw [List.append_assoc, List.append_assoc]
    rcases Nat.lt_trichotomy j off with hj | hj | hj
    · rw [List.getElem?_append_left (by simp; omega), List.getElem?_append_left (by simp; omega), List.getElem?_take, List.getElem?_take, if_pos (by omega), if_pos hj, List.getElem?_set_ne (by omega)]
    · subst hj
      rw [List.getElem?_append_left (by simp; omega), List.getElem?_append_right (by simp; omega), List.getElem?_take, if_pos (by omega), List.getElem?_set_self (by omega)]
      simp [Nat.min_eq_left (by omega : j ≤ c.length)]
    · have e1 : (List.take (off + 1) (c.set off v)).length = off + 1 := by simp; omega
      have e2 : (List.take off c).length = off := by simp; omega
      rw [List.getElem?_append_right (by rw [e1]; omega), List.getElem?_append_right (l₁ := List.take off c) (by rw [e2]; omega), e1, e2]
      obtain ⟨k, rfl⟩ : ∃ k, j = off + 1 + k := ⟨j - (off + 1), by omega⟩
      rw [show off + 1 + k - (off + 1) = k by omega, show off + 1 + k - off = k + 1 by omega, List.cons_append, List.getElem?_cons_succ]
      congr 2
      apply List.ext_getElem?
      intro q
      rw [List.getElem?_drop, List.getElem?_drop, List.getElem?_set_ne (by omega)]
      congr 1; omega
theorem writeD_blk {α : Type} {c : α → List Dat} [Wid c 1] (l xs : List α) (i : Nat) (h : i + xs.length ≤ l.length) : writeD (blkOf c l) i (blkOf c xs) = blkOf c (putL l i xs) := by
  have h1 : ∀ l : List α, (blkOf c l).length = l.length := fun l => by rw [blk_len]; omega
  rw [writeD_eq _ _ _ (by rw [h1, h1]; exact h)]
  unfold putL
  have d := fun k => blk_drop (c := c) l k
  have t := fun k => blk_take (c := c) l k
  simp only [Nat.mul_one] at d t
  rw [h1, d, t, blk_app, blk_app]

/-- One row of elements, handed on. -/
theorem leave_own1 {α : Type} {c : α → List Dat} [Nn c] {n : Nat} [Wid c n] {H B : VHeap} {id g off m cap ver : Nat} {l : List α} {md : Md} (h1 : List.length H ≤ id) (hb : (H ++ B)[id]? = some (.cells (blkOf c l) md false g ver)) :
    leaveD H true [.slc id g off m cap n] (H ++ B) = some ([.slc (List.length H) 0 off m cap n], H ++ [.cells (blkOf c l) md false 0 0]) := by
  have ho : ownOf (List.length H) [.slc id g off m cap n] = some (0, id, g, off, m, cap, n) := by rw [ownOf_slc, if_pos h1]
  refine leave_own H ho hb ?_ (r := [undefD]) ?_ (mapO_blk (k := 5) l)
  · rw [List.flatMap_append, seen_blk]; rfl
  · rfl
theorem leave_own2 {α : Type} {c : α → List Dat} [Nn c] {n : Nat} [Wid c n] {H B : VHeap} {id g off m cap ver : Nat} {l : List α} {md : Md} {x : Dat} (hx : nn x = true) (h1 : List.length H ≤ id) (hb : (H ++ B)[id]? = some (.cells (blkOf c l) md false g ver)) :
    leaveD H true [.slc id g off m cap n, .d x] (H ++ B) = some ([.slc (List.length H) 0 off m cap n, .d x], H ++ [.cells (blkOf c l) md false 0 0]) := by
  have ho : ownOf (List.length H) [.slc id g off m cap n, .d x] = some (0, id, g, off, m, cap, n) := by rw [ownOf_slc, if_pos h1]
  refine leave_own H ho hb ?_ (r := [undefD, .d x]) ?_ (mapO_blk (k := 5) l)
  · rw [List.flatMap_append, seen_blk]
    show (List.flatMap _ [undefD, .d x] ++ []).contains id = false
    simp [seen_d, undefD, fzN, seen_tuple]
  · show (mapO (fz _ _ true (5 + 1)) [undefD, .d x]) = _
    simp only [mapO, fz_d hx]; rfl

theorem get_cons0 (H X : VHeap) (b : VBlk) : (H ++ (b :: X))[List.length H]? = some b := by rw [get_app0]; rfl
theorem set_same {H : VHeap} {id : Nat} {b : VBlk} (h : H[id]? = some b) : H.set id b = H := by
  apply List.ext_getElem?
  intro j
  by_cases e : id = j
  · subst e
    obtain ⟨hl, _⟩ := List.getElem?_eq_some_iff.1 h
    rw [List.getElem?_set_self hl, h]
  · rw [List.getElem?_set_ne e]
section made
variable {P : Program} {α : Type} {c : α → List Dat}
theorem repeatD_blk {z : List DV} {a : α} (h : z = (c a).map .d) : ∀ n, repeatD z n = blkOf c (List.replicate n a)
  | 0 => rfl
  | n + 1 => by rw [repeatD, repeatD_blk h n, List.replicate_succ, h]; simp [blkOf]
theorem vmakeS_blk {n : Nat} {t e by_ : Nat} {z : Value} {a : α} {j k : IntKind} (m : Nat) (he : elemT P t = some (e, n, by_)) (hz : zeroT P e = some z) (h : zD z = (c a).map .d) (hn : (zD z).length = n) (h0 : 0 < n) (hm : m < 2 ^ 47) (hb : m * by_ ≤ 2 ^ 47) :
    vmakeS P t (.d (.v (.int j m))) (.d (.v (.int k m))) = some (blkOf c (List.replicate m a), m, m, n) := by
  unfold vmakeS
  simp only [he, toV, hz]
  rw [if_pos ⟨by omega, by omega, by omega, by exact_mod_cast hb, hn, h0⟩, repeatD_blk h]
  simp only [Int.toNat_natCast]
/-- Copied: words, and their like. -/
theorem vcopy_rows [Wid c 1] [Nn c] {t xt e by_ id g off dLen cap sz ver : Nat} {H : VHeap} {l l0 : List α} {m : Md} (he : elemT P t = some (e, 1, by_)) (hs : ∀ a, ((c a).map DV.d).all vscal = true) (h : H[id]? = some (.cells (blkOf c l0) m false g ver)) (hm : m ≠ .ro) (hk : off + min l.length dLen ≤ l0.length) :
    ∃ v', vcopy P #[t, xt] [.slc id g off dLen cap sz, .d (rowsOf c l)] H = some (.d (.v (.int .i64 (min l.length dLen : Nat))), H.set id (.cells (blkOf c (putL l0 off (l.take (min l.length dLen)))) m false g v')) := by
  have hf : firstD H 1 (Nat.min l.length dLen) (.d (rowsOf c l)) = some (blkOf c (l.take (min l.length dLen))) := firstD_rows l _ (Nat.min_le_left _ _)
  have hlen : (l.take (min l.length dLen)).length = min l.length dLen := by rw [List.length_take]; omega
  have hbl : (blkOf c (l.take (min l.length dLen))).length = min l.length dLen := by rw [blk_len, hlen]; omega
  unfold vcopy
  simp only [he, lenD_slc, lenD_rows, hf]
  rw [if_pos ⟨blk_scal _ hs, rfl⟩]
  by_cases h0 : (blkOf c (l.take (min l.length dLen))).length = 0
  · rw [if_pos h0]
    refine ⟨ver, ?_⟩
    have e0 : l.take (min l.length dLen) = [] := List.eq_nil_of_length_eq_zero (by omega)
    have e1 : putL l0 off [] = l0 := by simp [putL]
    rw [e0, e1, set_same h]
    rfl
  · rw [if_neg h0]
    refine ⟨ver + 1, ?_⟩
    unfold vstoreAt
    rw [h]
    simp only [true_and]
    have l1 : (blkOf c l0).length = l0.length := by rw [blk_len, Nat.mul_one]
    rw [if_pos ⟨hm, by rw [hbl, l1]; exact hk, blk_scal _ hs⟩, writeD_blk _ _ _ (by rw [hlen]; exact hk)]
    rfl
/-- One row of elements, by value. -/
theorem leave_val1 [Nn c] {n : Nat} [Wid c n] {H B : VHeap} {id g m cap ver : Nat} {l : List α} {md : Md} {lk : Bool} (h1 : List.length H ≤ id) (hb : (H ++ B)[id]? = some (.cells (blkOf c l) md lk g ver)) (hm : m = l.length) (hf : md.fits n = true) (h0 : 0 < n) :
    leaveD H false [.slc id g 0 m cap n] (H ++ B) = some ([.d (rowsOf c l)], H) := by
  subst hm
  rw [leave_plain]
  show (mapO (fz _ _ true (4 + 2)) _).map _ = _
  simp only [mapO]
  rw [fz_slc (c := c) (by omega) (by unfold cellsOf; rw [hb]; simp) (by unfold fitsAt; rw [hb]; exact hf) h0]
  rfl
theorem leave_val2 [Nn c] {n : Nat} [Wid c n] {H B : VHeap} {id g m cap ver : Nat} {l : List α} {md : Md} {lk : Bool} {x : Dat} (hx : nn x = true) (h1 : List.length H ≤ id) (hb : (H ++ B)[id]? = some (.cells (blkOf c l) md lk g ver)) (hm : m = l.length) (hf : md.fits n = true) (h0 : 0 < n) :
    leaveD H false [.slc id g 0 m cap n, .d x] (H ++ B) = some ([.d (rowsOf c l), .d x], H) := by
  subst hm
  rw [leave_plain]
  show (mapO (fz _ _ true (4 + 2)) _).map _ = _
  simp only [mapO]
  rw [fz_slc (c := c) (by omega) (by unfold cellsOf; rw [hb]; simp) (by unfold fitsAt; rw [hb]; exact hf) h0, fz_d hx]
  rfl
end made
theorem unlockK_hard (H : VHeap) (Q : DV → VHeap → Prop) (r : DV) (H' : VHeap) (h : flatD r = false) : unlockK H Q r H' = Q r H' := by rw [unlockK_eq, h]; simp

theorem vmin2 {P : Program} {ts : Array TypeId} {t : TypeId} {k : IntKind} (a b : Int) : vmin P ts t [.d (.v (.int k a)), .d (.v (.int k b))] = some (.d (.v (.int k (min a b)))) := by
  have : (if b < a then b else a) = min a b := by omega
  simp [vmin, toVs, toV, minV, Builtin.min_, Builtin.min2, ofV, dv, this]
theorem vmin3 {P : Program} {ts : Array TypeId} {t : TypeId} {k : IntKind} (a b c : Int) : vmin P ts t [.d (.v (.int k a)), .d (.v (.int k b)), .d (.v (.int k c))] = some (.d (.v (.int k (min (min a b) c)))) := by
  have e1 : (if b < a then b else a) = min a b := by omega
  have e2 : (if c < min a b then c else min a b) = min (min a b) c := by omega
  simp [vmin, toVs, toV, minV, Builtin.min_, Builtin.min2, ofV, dv, e1, e2]
theorem vbin_rem {P : Program} {t : TypeId} {x y : Operand} {k : IntKind} (a b : Int) (h : b ≠ 0) : vbin P .rem t x y (.d (.v (.int k a))) (.d (.v (.int k b))) = some (.d (.v (.int k (a.tmod b)))) := by
  simp [vbin, toV, abin_rem (h := h), ofV, dv]
theorem vbin_quo {P : Program} {t : TypeId} {x y : Operand} {k : IntKind} (a b : Int) (h : b ≠ 0) : vbin P .quo t x y (.d (.v (.int k a))) (.d (.v (.int k b))) = some (.d (.v (.int k (k.wrap (a.tdiv b))))) := by
  simp [vbin, toV, abin_quo (h := h), ofV, dv]
attribute [go_sem] vmin2 vmin3

theorem obind_vapp {P : Program} {ts : Array TypeId} {s s' x x' : DV} {H H' : VHeap} {k : DV × VHeap → Prop} (h1 : s = s') (h2 : x = x') (h3 : H = H') (h : obind (vappend P ts [s', x'] H') k) : obind (vappend P ts [s, x] H) k := by rw [h1, h2, h3]; exact h
theorem obind_vcopy {P : Program} {ts : Array TypeId} {s s' x x' : DV} {H H' : VHeap} {k : DV × VHeap → Prop} (h1 : s = s') (h2 : x = x') (h3 : H = H') (h : obind (vcopy P ts [s', x'] H') k) : obind (vcopy P ts [s, x] H) k := by rw [h1, h2, h3]; exact h
section vals
variable {α : Type} {c : α → List Dat} {n : Nat} [Wid c n] [Nn c]
theorem fz_val {G : VHeap} {id g m cap k ver : Nat} {l : List α} {md : Md} {lk : Bool} (hG : G[id]? = some (.cells (blkOf c l) md lk g ver)) (hm : m = l.length) (hf : md.fits n = true) (h0 : 0 < n) : fz G 0 false (k + 2) (.slc id g 0 m cap n) = some (.d (rowsOf c l)) := by
  subst hm
  exact fz_slc (c := c) (by omega) (by unfold cellsOf; rw [hG]; simp) (by unfold fitsAt; rw [hG]; exact hf) h0
theorem seen_val {G : VHeap} {id g off m cap k ver sz : Nat} {l : List α} {md : Md} {lk : Bool} (hG : G[id]? = some (.cells (blkOf c l) md lk g ver)) : Go.Abs.seen G 0 false (k + 1) (.slc id g off m cap sz) = [id] := by
  rw [seen_slc, if_neg (by omega)]
  have : cellsOf G id g = some (blkOf c l) := by unfold cellsOf; rw [hG]; simp
  rw [this]
  unfold blkOf
  simp only [Option.getD_some, ← List.map_drop, ← List.map_take, seen_ds]
end vals
theorem mapO_pair {G : VHeap} {x y : Dat} {s : DV} (hx : nn x = true) (hs : fz G 0 false (4 + 2) s = some (.d y)) : mapO (fz G 0 false fzN) [.d x, s] = some [.d x, .d y] := by
  show mapO (fz G 0 false (4 + 2)) [.d x, s] = _
  simp only [mapO, fz_d hx, hs]
theorem seen_pair {G : VHeap} {x : Dat} {s : DV} {id : Nat} (hs : Go.Abs.seen G 0 false (5 + 1) s = [id]) : [DV.d x, s].flatMap (Go.Abs.seen G 0 false fzN) = [id] := by
  show [DV.d x, s].flatMap (Go.Abs.seen G 0 false (5 + 1)) = _
  simp only [List.flatMap_cons, List.flatMap_nil, seen_d, hs, List.nil_append, List.append_nil]

/-! A row that begins as nil, and grows -/
section out
variable {P : Program} {α : Type} {c : α → List Dat} {n : Nat} [Wid c n] [Nn c]
def OutC (c : α → List Dat) (n : Nat) (H : VHeap) (acc : List α) (V : VHeap) (s : DV) : Prop :=
  (acc = [] ∧ s = .d (.v (.slice none 0 0)) ∧ ∃ J, V = H ++ J) ∨ (acc ≠ [] ∧ ∃ A J g v, V = H ++ (A ++ (.cells (blkOf c acc) (.grown n) false g v :: J)) ∧ s = .slc (List.length H + List.length A) g 0 acc.length acc.length n)
theorem OutC.nil (H J : VHeap) : OutC c n H [] (H ++ J) (.d (.v (.slice none 0 0))) := .inl ⟨rfl, rfl, J, rfl⟩
/-- More made behind it. -/
theorem OutC.more {H V : VHeap} {acc : List α} {s : DV} (h : OutC c n H acc V s) (B : VHeap) : OutC c n H acc (V ++ B) s := by
  rcases h with ⟨h1, h2, J, rfl⟩ | ⟨hne, A, J, g, v, rfl, rfl⟩
  · exact .inl ⟨h1, h2, J ++ B, by simp⟩
  · exact .inr ⟨hne, A, J ++ B, g, v, by simp, rfl⟩
theorem out_stepC {t xt : TypeId} {e by_ k : Nat} (T : AppT P t xt c e n by_) {H V : VHeap} {acc l : List α} {s x : DV} {B : VHeap} {xs : List DV} {ids : List Nat} (h : OutC c n H acc V s) (hb : (acc.length + k) * by_ ≤ 2 ^ 44) (hk : k ≠ 0) (hkl : l.length = k) (hl : lenD x = some k) (hf : firstD (V ++ B) n k x = some xs)
    (hz : mapO (fz (V ++ B) 0 false fzN) xs = some (blkOf c l)) (hi : xs.flatMap (Go.Abs.seen (V ++ B) 0 false fzN) = ids) (hid : ∀ i ∈ ids, V.length ≤ i) : ∃ r V', vappend P #[t, xt] [s, x] (V ++ B) = some (r, V') ∧ OutC c n H (acc ++ l) V' r := by
  have hlock : ∃ B', B'.length = B.length ∧ lockAll ids (V ++ B) = V ++ B' := by
    clear hf hz hi
    induction ids generalizing B with
    | nil => exact ⟨B, rfl, rfl⟩
    | cons i ids ih =>
      have hi := hid i List.mem_cons_self
      have h1 : ∃ B1, B1.length = B.length ∧ lock1 (V ++ B) i = V ++ B1 := by
        unfold lock1
        rw [List.getElem?_append_right hi]
        cases B[i - V.length]? with
        | none => exact ⟨B, rfl, rfl⟩
        | some y => exact ⟨B.set (i - V.length) y.lock, by simp, by simp only; rw [List.set_append_right _ _ hi]⟩
      obtain ⟨B1, e1, e2⟩ := h1
      obtain ⟨B2, e3, e4⟩ := ih (B := B1) (fun j hj => hid j (List.mem_cons_of_mem _ hj))
      exact ⟨B2, by omega, by rw [lockAll, e2, e4]⟩
  obtain ⟨B', hB, hL⟩ := hlock
  have lenS0 : lenS s = acc.length := by
    rcases h with ⟨rfl, rfl, _⟩ | ⟨_, A, J, g, v, _, rfl⟩ <;> rfl
  have hne : l ≠ [] := by rintro rfl; simp at hkl; omega
  rw [vappend_gen T (H1 := V ++ B') hl hf hz (by rw [hi]; exact hL) (by rw [lenS0]; exact hb)]
  rcases h with ⟨rfl, rfl, J, rfl⟩ | ⟨hne0, A, J, g, v, rfl, rfl⟩
  · rw [vgrow_nil, if_neg hk]
    refine ⟨_, _, rfl, .inr ⟨by simpa using hne, J ++ B', [], 0, 0, ?_, ?_⟩⟩
    · simp
    · simp [List.length_append, Nat.add_assoc, hkl]
  · have hg : (H ++ (A ++ (VBlk.cells (blkOf c acc) (.grown n) false g v :: J)) ++ B')[List.length H + List.length A]? = some (.cells (blkOf c acc) (.grown n) false g v) := by
      rw [List.append_assoc, get_app, List.append_assoc, get_app0]; rfl
    rw [vgrow_grown hk hg, blk_app]
    refine ⟨_, _, rfl, .inr ⟨by simp [hne0], A, J ++ B', g + 1, v + 1, ?_, by simp [hkl]⟩⟩
    rw [List.append_assoc, set_app, List.append_assoc, set_app0]
    rfl
/-- What is returned of it, by value. -/
theorem OutC.leave1 {H V : VHeap} {acc : List α} {s : DV} (h : OutC c n H acc V s) (h0 : 0 < n) : leaveD H false [s] V = some ([.d (rowsOf c acc)], H) := by
  rcases h with ⟨rfl, rfl, J, rfl⟩ | ⟨hne, A, J, g, v, rfl, rfl⟩
  · rw [leave_plain]; rfl
  · exact leave_val1 (Nat.le_add_right _ _) (by rw [get_app, get_app0]; rfl) rfl (by simp [Md.fits]) h0
theorem OutC.leave2 {H V : VHeap} {acc : List α} {s : DV} {x : Dat} (h : OutC c n H acc V s) (h0 : 0 < n) (hx : nn x = true) : leaveD H false [s, .d x] V = some ([.d (rowsOf c acc), .d x], H) := by
  rcases h with ⟨rfl, rfl, J, rfl⟩ | ⟨hne, A, J, g, v, rfl, rfl⟩
  · rw [leave_plain]
    show (mapO (fz _ _ true (5 + 1)) _).map _ = _
    simp only [mapO, fz_d hx]; rfl
  · exact leave_val2 hx (Nat.le_add_right _ _) (by rw [get_app, get_app0]; rfl) rfl (by simp [Md.fits]) h0
end out
section one
variable {P : Program} {α : Type} {c : α → List Dat} [Wid c 1]
theorem blk_one {l : List α} {i : Nat} {a : α} {y : Dat} (h : l[i]? = some a) (hy : c a = [y]) : (blkOf c l)[i]? = some (.d y) := by
  have hs : ∀ a, ∃ y, c a = [y] := fun a => by
    have := Wid.w (c := c) a
    match c a, this with
    | [y], _ => exact ⟨y, rfl⟩
  induction l generalizing i with
  | nil => simp at h
  | cons b l ih =>
    obtain ⟨z, hz⟩ := hs b
    have : blkOf c (b :: l) = .d z :: blkOf c l := by simp [blkOf, hz]
    rw [this]
    cases i with
    | zero => simp at h; subst h; rw [hy] at hz; simp at hz; subst hz; rfl
    | succ i => rw [List.getElem?_cons_succ]; exact ih (by simpa using h)
theorem blk_set (l : List α) (i : Nat) (a : α) (y : Dat) (hy : c a = [y]) (hi : i < l.length) : (blkOf c l).set i (.d y) = blkOf c (l.set i a) := by
  have e : blkOf c [a] = [.d y] := by simp [blkOf, hy]
  have := writeD_blk (c := c) l [a] i (by simp; omega)
  rw [e] at this
  simp only [writeD] at this
  rw [this]
  congr 1
  unfold putL
  rw [List.set_eq_take_append_cons_drop, if_pos hi]
  simp
theorem vstore_one {t : TypeId} {id g off ver : Nat} {H : VHeap} {l : List α} {m : Md} {a : α} {y : Dat} (hs : sizeT P t = some 1) (hy : c a = [y]) (hc : vcells (.d y) = [.d y]) (hsc : vscal (.d y) = true) (h : H[id]? = some (.cells (blkOf c l) m false g ver)) (hm : m ≠ .ro) (ho : off < l.length) :
    vstore P t (.ptr id g off) (.d y) H = some (H.set id (.cells (blkOf c (l.set off a)) m false g (ver + 1))) := by
  unfold vstore
  simp only [hs, hc, List.length_cons, List.length_nil, Nat.zero_add, if_true]
  unfold vstoreAt
  rw [h]
  simp only [true_and]
  rw [if_pos ⟨hm, by rw [blk_len]; simp; omega, by simp [hsc]⟩]
  simp only [writeD]
  rw [blk_set l off a y hy ho]
end one
end Go.Abs
/- The machine of values: a part of a function's code, held back, so that the rest is run with it opaque. -/
namespace Go.Abs
open Go
set_option linter.unusedVariables false
def VWcH (P : Program) (tab : Tab) (orc : VOrc) (self : FuncId) (F : Array DV → VHeap → (Ex → Array DV → VHeap → Prop) → Prop) : List Nat → Code → Array DV → VHeap → (Ex → Array DV → VHeap → Prop) → Prop
  | [], _ => F
  | i :: p, c => match c with
    | .seq a b => fun ts H K => if i = 0 then VWcH P tab orc self F p a ts H (seqD (fun t h k => VWc P tab orc self b t h k) K) else VWc P tab orc self a ts H (seqD (fun t h k => VWcH P tab orc self F p b t h k) K)
    | .cond x a b => fun ts H K => if i = 0 then condD (evalD ts x) (VWcH P tab orc self F p a ts H K) (VWc P tab orc self b ts H K) else condD (evalD ts x) (VWc P tab orc self a ts H K) (VWcH P tab orc self F p b ts H K)
    | .block id b => fun ts H K => VWcH P tab orc self F p b ts H (blockD id K)
    | .scope b => fun ts H K => VWcH P tab orc self F p b ts H K
    | c => VWc P tab orc self c
theorem VWcH_eq {P : Program} {tab : Tab} {orc : VOrc} {self : FuncId} : ∀ (p : List Nat) (c : Code), VWcH P tab orc self (fun t h k => VWc P tab orc self (subC c p) t h k) p c = VWc P tab orc self c := by
  intro p
  induction p with
  | nil => intro c; cases c <;> rfl
  | cons i p ih =>
    intro c
    cases c with
    | seq a b =>
      funext ts H K
      by_cases h : i = 0
      · simp only [VWcH, subC, if_pos h]
        rw [ih a]; rfl
      · simp only [VWcH, subC, if_neg h]
        rw [ih b]; rfl
    | cond x a b =>
      funext ts H K
      by_cases h : i = 0
      · simp only [VWcH, subC, if_pos h]
        rw [ih a]; rfl
      · simp only [VWcH, subC, if_neg h]
        rw [ih b]; rfl
    | block id b => funext ts H K; simp only [VWcH, subC]; rw [ih b]; rfl
    | scope b => funext ts H K; simp only [VWcH, subC]; rw [ih b]; rfl
    | _ => rfl
/-- Run with a part held back. -/
theorem held {P : Program} {tab : Tab} {orc : VOrc} {self : FuncId} {c S : Code} (p : List Nat) (hs : S = subC c p) {ts : Array DV} {H : VHeap} {K : Ex → Array DV → VHeap → Prop} {W : (Array DV → VHeap → (Ex → Array DV → VHeap → Prop) → Prop) → Prop}
    (h : ∀ F, VWcH P tab orc self F p c ts H K = W F) : VWc P tab orc self c ts H K = W (fun t h k => VWc P tab orc self S t h k) := by
  subst hs
  rw [← h, VWcH_eq]
end Go.Abs
/- The machine of values at the top: what came in, as values; a call's answer. -/
namespace Go.Abs
open Go Go.RowKit Go.ChangeShapes Go.WideShapes
set_option linter.unusedVariables false
set_option linter.unusedSimpArgs false

mutual
/-- A value, as it stands in a world that nobody writes. -/
inductive KD (w : World) : Dat → Value → Prop
  | v (x : Value) : flat x = true → KD w (.v x) x
  | nil : KD w (.rows []) (.slice none 0 0)
  | cut (a : Addr) : KD w (.rows []) (.slice (some a) 0 0)
  | rows (l : List (List Dat)) (b off cap sz : Nat) (cs : List Value) : b < w.heap.size → (∀ r ∈ l, r.length = sz) → l.length ≤ cap → cs.length = l.length * sz →
      (∀ (i : Nat) (v : Value), cs[i]? = some v → w.cell? ⟨b, off + i, none⟩ = some v) → KDs w l.flatten cs → KD w (.rows l) (.slice (some ⟨b, off, none⟩) l.length cap)
inductive KDs (w : World) : List Dat → List Value → Prop
  | nil : KDs w [] []
  | cons (a : Dat) (b : Value) (l : List Dat) (m : List Value) : KD w a b → KDs w l m → KDs w (a :: l) (b :: m)
end
theorem KDs.append {w : World} : ∀ {a : List Dat} {b : List Value} {c : List Dat} {d : List Value}, KDs w a b → KDs w c d → KDs w (a ++ c) (b ++ d)
  | _, _, _, _, .nil, h => h
  | _, _, _, _, .cons a b l m h1 h2, h => .cons _ _ _ _ h1 (KDs.append h2 h)
theorem DataRs.len {Φ : Phi} : ∀ {a : List Dat} {b : List Value}, DataRs Φ a b → b.length = a.length
  | _, _, .nil => rfl
  | _, _, .cons a b l m h1 h2 => by simp [DataRs.len h2]
theorem KDs.len {w : World} : ∀ {a : List Dat} {b : List Value}, KDs w a b → b.length = a.length
  | _, _, .nil => rfl
  | _, _, .cons a b l m h1 h2 => by simp [KDs.len h2]

def noRn : Rn := fun _ => none
theorem VInv.start : VInv (fun _ => none) noRn [] Heap.nil :=
  ⟨(fun _ _ _ h => nomatch h), (fun _ _ _ _ _ h => nomatch h), (fun id _ _ _ _ _ h => by simp at h), (fun id _ _ h => by simp at h), (fun _ _ h => nomatch h)⟩
theorem VInv.addRo {Φ : Phi} {H : Heap} (inv : VInv Φ noRn [] H) (b : Blk) : VInv (fun i => if i = H.n then some b else Φ i) noRn [] (H.push b) ∧ PLe Φ (fun i => if i = H.n then some b else Φ i) := by
  have hno : ∀ i x, Φ i = some x → i ≠ H.n := fun i x h e => by
    subst e
    have := inv.phi_none (i := H.n) (Nat.le_refl _)
    rw [this] at h; cases h
  refine ⟨⟨(fun _ _ _ h => nomatch h), (fun _ _ _ _ _ h => nomatch h), (fun id _ _ _ _ _ h => by simp at h), (fun id _ _ h => by simp at h), fun i x h => ?_⟩, fun i x h => ?_⟩
  · have h : (if i = H.n then some b else Φ i) = some x := h
    split at h
    · rename_i e; subst e; rw [Heap.get_push, if_pos rfl]; rw [if_pos rfl] at h; exact h
    · rename_i e; rw [Heap.get_push, if_neg e]; exact inv.phi i x h
  · show (if i = H.n then some b else Φ i) = some x
    rw [if_neg (hno i x h)]; exact h
/-- So far. -/
structure Top (w : World) (Φ : Phi) (ρ : Ren) (H : Heap) : Prop where
  rel : Rel w.heap.size ρ H w
  inv : VInv Φ noRn [] H

mutual
theorem KD.come {w : World} : ∀ {d : Dat} {v : Value}, KD w d v → ∀ {Φ : Phi} {ρ : Ren} {H : Heap}, Top w Φ ρ H → ∃ Φ' ρ' H' av, Top w Φ' ρ' H' ∧ PLe Φ Φ' ∧ Le ρ ρ' ∧ DataR Φ' d av ∧ VR ρ' av v
  | _, _, .v x hf, Φ, ρ, H, t => ⟨Φ, ρ, H, x, t, PLe.refl _, Le.refl _, .v x hf, .flat x hf⟩
  | _, _, .nil, Φ, ρ, H, t => ⟨Φ, ρ, H, _, t, PLe.refl _, Le.refl _, .nil, .flat _ rfl⟩
  | _, _, .cut a, Φ, ρ, H, t => ⟨Φ, ρ, H, _, t, PLe.refl _, Le.refl _, .cut, .cut a⟩
  | _, _, .rows l b off cap sz cs hb hr hl hcl hc hk, Φ, ρ, H, t => by
    obtain ⟨Φ1, ρ1, H1, avs, t1, p1, l1, d1, v1⟩ := KDs.come hk t
    have hlen : avs.length = cs.length := by rw [v1.length_eq]
    obtain ⟨r2, l2⟩ := t1.rel.addRo b off hb avs (fun i v hv => by
      obtain ⟨v', e, q⟩ := v1.get i v hv
      exact ⟨v', hc i v' e, q⟩)
    obtain ⟨i2, p2⟩ := t1.inv.addRo (.cells avs .ro)
    refine ⟨_, _, _, .slice (some ⟨H1.n, 0, none⟩) l.length l.length, ⟨r2, i2⟩, p1.trans p2, l1.trans l2, ?_, ?_⟩
    · refine .rows l H1.n 0 l.length sz avs .ro (by simp) hr (fun _ => rfl) (Nat.le_refl _) (by omega) ?_
      rw [List.drop_zero, List.take_of_length_le (by omega)]
      exact d1.mono p2
    · have e : (⟨b, off, none⟩ : Addr) = ⟨b, off + 0, none⟩ := rfl
      rw [e]
      exact .slice H1.n 0 l.length l.length 0 cap ⟨b, off, 0, .ro⟩ (Ren.upd_same _ _ _) (Nat.le_refl _) hl (fun _ => rfl) (fun h => by cases h) (fun es h => by cases h)
theorem KDs.come {w : World} : ∀ {d : List Dat} {v : List Value}, KDs w d v → ∀ {Φ : Phi} {ρ : Ren} {H : Heap}, Top w Φ ρ H → ∃ Φ' ρ' H' av, Top w Φ' ρ' H' ∧ PLe Φ Φ' ∧ Le ρ ρ' ∧ DataRs Φ' d av ∧ VRs ρ' av v
  | _, _, .nil, Φ, ρ, H, t => ⟨Φ, ρ, H, [], t, PLe.refl _, Le.refl _, .nil, .nil⟩
  | _, _, .cons a b l m h1 h2, Φ, ρ, H, t => by
    obtain ⟨Φ1, ρ1, H1, av, t1, p1, l1, d1, v1⟩ := KD.come h1 t
    obtain ⟨Φ2, ρ2, H2, avs, t2, p2, l2, d2, v2⟩ := KDs.come h2 t1
    exact ⟨Φ2, ρ2, H2, av :: avs, t2, p1.trans p2, l1.trans l2, .cons _ _ _ _ (d1.mono p2) d2, .cons _ _ _ _ (v1.mono l2) v2⟩
end

/-- An argument. -/
inductive KV (w : World) : DV → Value → Prop
  | d (x : Dat) (v : Value) : KD w x v → KV w (.d x) v
  | agg (l : List Dat) (cs : List Value) : KDs w l cs → KV w (.agg (l.map .d)) (.agg ⟨cs⟩)
inductive KVs (w : World) : List DV → List Value → Prop
  | nil : KVs w [] []
  | cons (a : DV) (b : Value) (l : List DV) (m : List Value) : KV w a b → KVs w l m → KVs w (a :: l) (b :: m)
theorem datas_dvrs {Φ : Phi} {ρ : Rn} : ∀ {l : List Dat} {m : List Value}, DataRs Φ l m → DVRs Φ ρ (l.map .d) m
  | _, _, .nil => .nil
  | _, _, .cons a b l m h1 h2 => .cons _ _ _ _ (.d _ _ h1) (datas_dvrs h2)
theorem KV.come {w : World} {d : DV} {v : Value} (h : KV w d v) {Φ : Phi} {ρ : Ren} {H : Heap} (t : Top w Φ ρ H) : ∃ Φ' ρ' H' av, Top w Φ' ρ' H' ∧ PLe Φ Φ' ∧ Le ρ ρ' ∧ DVR Φ' noRn d av ∧ VR ρ' av v := by
  cases h with
  | d x v hk =>
    obtain ⟨Φ1, ρ1, H1, av, t1, p1, l1, d1, v1⟩ := hk.come t
    exact ⟨Φ1, ρ1, H1, av, t1, p1, l1, .d _ _ d1, v1⟩
  | agg l cs hk =>
    obtain ⟨Φ1, ρ1, H1, av, t1, p1, l1, d1, v1⟩ := hk.come t
    exact ⟨Φ1, ρ1, H1, .agg ⟨av⟩, t1, p1, l1, .agg _ _ (datas_dvrs d1), .agg _ _ v1⟩
theorem KVs.come {w : World} : ∀ {d : List DV} {v : List Value}, KVs w d v → ∀ {Φ : Phi} {ρ : Ren} {H : Heap}, Top w Φ ρ H → ∃ Φ' ρ' H' av, Top w Φ' ρ' H' ∧ PLe Φ Φ' ∧ Le ρ ρ' ∧ DVRs Φ' noRn d av ∧ VRs ρ' av v
  | _, _, .nil, Φ, ρ, H, t => ⟨Φ, ρ, H, [], t, PLe.refl _, Le.refl _, .nil, .nil⟩
  | _, _, .cons a b l m h1 h2, Φ, ρ, H, t => by
    obtain ⟨Φ1, ρ1, H1, av, t1, p1, l1, d1, v1⟩ := h1.come t
    obtain ⟨Φ2, ρ2, H2, avs, t2, p2, l2, d2, v2⟩ := KVs.come h2 t1
    exact ⟨Φ2, ρ2, H2, av :: avs, t2, p1.trans p2, l1.trans l2, .cons _ _ _ _ (d1.mono p2 (RLe.refl _)) d2, .cons _ _ _ _ (v1.mono l2) v2⟩
/-- WHAT THE MACHINE OF VALUES ANSWERS, THE CALL ANSWERS. -/
theorem calls_of_vev {P : Program} (hmix : P.follows .mixedOrders = true) {orc : Orc} (horc : OrcOk P orc) {tab : Tab} {vorc : VOrc} (hv : VOrcOk P orc vorc) {f : FuncId} {args : List DV} {x : Value}
    (h : VEv P tab vorc f false args [] fun r _ => r = .d (.v x)) (hx : flat x = true) {w : World} {cargs : List Value} (ha : KVs w args cargs) :
    Calls P f ⟨cargs⟩ w fun e w' => e = .returned x ∧ Below w.heap.size w w' := by
  obtain ⟨k, r, V', h1, rfl⟩ := h
  obtain ⟨Φ, ρ, H, av, t, _, _, d, vr⟩ := ha.come (Φ := fun _ => none) (ρ := fun _ => none) (H := Heap.nil) ⟨Rel.empty w, VInv.start⟩
  obtain ⟨k', v, H', Φ', ρ', e1, e2, _, _⟩ := vrun_sim tab hv k f false args [] _ V' h1 Φ noRn H av t.inv d
  have ev : v = x := by
    cases e2 with
    | d _ _ h => cases h with
      | v _ _ => rfl
  subst ev
  obtain ⟨_, _, h4⟩ := arun_sim hmix horc k' f ⟨av⟩ H v H' e1
  refine (h4 _ _ w ⟨cargs⟩ t.rel vr).mono fun e w' ⟨ρ', cv, h5, h6, _, h7⟩ => ?_
  rw [h6.flat_eq hx] at h5
  exact ⟨h5, h7.below⟩
/-- One answer, told to both machines. -/
def oneV (f : FuncId) (v : Value) : VOrc := fun g => if g = f then some (false, fun _ args V => if args.isEmpty then some (.d (.v v), V) else none) else none
theorem oneV_ok {P : Program} {f : FuncId} {v : Value} (hv : flat v = true) : VOrcOk P (oneOrc f v) (oneV f v) := by
  refine ⟨fun g mv args V h => ?_, fun g mv args V r V' h Φ ρ H args' inv ha => ?_⟩
  · unfold oneOrc
    split
    · rename_i e
      subst e
      unfold vask oneV at h
      cases args with
      | nil => simp at h
      | cons a l => simp at h
    · rfl
  · unfold vask oneV at h
    by_cases e : g = f
    · subst e
      simp only [if_true] at h
      by_cases he : args.isEmpty = true
      · simp only [he, if_true, Option.some.injEq, Prod.mk.injEq] at h
        obtain ⟨h1, h2⟩ := h
        subst h1; subst h2
        have : args = [] := by simpa using he
        subst this
        have : args' = [] := by cases ha; rfl
        subst this
        exact ⟨1, v, H, Φ, ρ, by simp [arun, oneOrc], .d _ _ (.v _ hv), inv, Tr.refl _ _ _ _⟩
      · simp [he] at h
    · rw [if_neg e] at h; cases h
end Go.Abs
/- The machine of values at the top: what a reading of an argument gives. -/
namespace Go.Abs
open Go Go.RowKit Go.ChangeShapes Go.WideShapes
set_option linter.unusedVariables false
set_option linter.unusedSimpArgs false

/-- Whatever can be read as a datum of type t is such a value. -/
structure Rd {α : Type} (P : Program) (t : TypeId) (c : α → List Dat) (wf : α → Prop) : Prop where
  mk ::
  out : ∀ {H : Type} {enc : TypeId × Value → H} {w : World} {base : Nat} {held : Bool} {fuel : Nat} {cs : List Value} {x : DataW H × List MemPlace},
    DataW.trod enc P w base (fun _ => true) held fuel t cs = some x → (∀ n ∈ x.1.weights P t, n ≤ reachBytes) → ∃ a, KDs w (c a) cs ∧ wf a
theorem rd_int {P : Program} {t : TypeId} {q : IntKind} (hu : P.underlying t = some (.int q)) : Rd P t (cI q) (fun x => (Lit.int q x).wf = true) := by
  constructor
  intro H enc w base held fuel cs x h hz
  obtain ⟨n, rfl, _, hw⟩ := DataW.trod_int hu h
  exact ⟨n, .cons _ _ _ _ (.v _ rfl) .nil, hw⟩
theorem rd_bool {P : Program} {t : TypeId} (hu : P.underlying t = some .bool) : Rd P t cB (fun _ => True) := by
  constructor
  intro H enc w base held fuel cs x h hz
  obtain ⟨b, rfl, _⟩ := DataW.trod_bool hu h
  exact ⟨b, .cons _ _ _ _ (.v _ rfl) .nil, trivial⟩
theorem weightsAll_mem {H : Type} {P : Program} {e : TypeId} {d : DataW H} : ∀ {l : List (DataW H)}, d ∈ l → ∀ n ∈ d.weights P e, n ∈ DataW.weightsAll P e l
  | [], h, _, _ => by simp at h
  | x :: l, h, n, hn => by
    rw [DataW.weightsAll, List.mem_append]
    rcases List.mem_cons.1 h with rfl | h
    · exact .inl hn
    · exact .inr (weightsAll_mem h n hn)
theorem choose_list {α : Type} (n : Nat) (p : Nat → α → Prop) (h : ∀ i, i < n → ∃ v, p i v) : ∃ xs : List α, xs.length = n ∧ ∀ i v, xs[i]? = some v → p i v := by
  induction n with
  | zero => exact ⟨[], rfl, fun i v hv => by simp at hv⟩
  | succ n ih =>
    obtain ⟨xs, hl, hx⟩ := ih (fun i hi => h i (by omega))
    obtain ⟨v, hv⟩ := h n (by omega)
    refine ⟨xs ++ [v], by simp [hl], fun i u hu => ?_⟩
    rcases Nat.lt_or_ge i xs.length with hi | hi
    · rw [List.getElem?_append_left hi] at hu
      exact hx i u hu
    · rw [List.getElem?_append_right hi] at hu
      have hi' : i - xs.length = 0 := by
        have := (List.getElem?_eq_some_iff.1 hu).1
        simp at this
        omega
      rw [hi'] at hu
      have : u = v := by simpa using hu.symm
      subst this
      have : i = n := by omega
      subst this
      exact hv
theorem cells_flat {α : Type} {w : World} {b sz : Nat} : ∀ (xs : List (α × List Value)) (off : Nat), (∀ i x, xs[i]? = some x → x.2.length = sz ∧ ∀ j v, x.2[j]? = some v → w.cell? ⟨b, off + i * sz + j, none⟩ = some v) →
    ∀ k v, (xs.map (·.2)).flatten[k]? = some v → w.cell? ⟨b, off + k, none⟩ = some v
  | [], off, _, k, v, h => by simp at h
  | x :: xs, off, hx, k, v, h => by
    obtain ⟨h1, h2⟩ := hx 0 x (by simp)
    simp only [List.map_cons, List.flatten_cons] at h
    by_cases hk : k < x.2.length
    · rw [List.getElem?_append_left hk] at h
      have := h2 k v h
      simpa using this
    · rw [List.getElem?_append_right (by omega)] at h
      have := cells_flat xs (off + sz) (fun i y hy => by
        obtain ⟨q1, q2⟩ := hx (i + 1) y (by simpa using hy)
        refine ⟨q1, fun j v hj => ?_⟩
        have := q2 j v hj
        rw [Nat.add_mul, Nat.one_mul] at this
        rw [show off + sz + i * sz + j = off + (i * sz + sz) + j by omega]; exact this) (k - x.2.length) v h
      rw [show off + sz + (k - x.2.length) = off + k by omega] at this
      exact this
theorem kds_flat {α : Type} {w : World} {c : α → List Dat} : ∀ (xs : List (α × List Value)), (∀ x ∈ xs, KDs w (c x.1) x.2) → KDs w ((xs.map (·.1)).map c).flatten (xs.map (·.2)).flatten
  | [], _ => .nil
  | x :: xs, h => by
    simp only [List.map_cons, List.flatten_cons]
    exact (h x List.mem_cons_self).append (kds_flat xs fun y hy => h y (List.mem_cons_of_mem _ hy))
theorem flat_size {α : Type} {sz : Nat} : ∀ (xs : List (α × List Value)), (∀ x ∈ xs, x.2.length = sz) → (xs.map (·.2)).flatten.length = xs.length * sz
  | [], _ => by simp
  | x :: xs, h => by
    simp only [List.map_cons, List.flatten_cons, List.length_append, List.length_cons, flat_size xs fun y hy => h y (List.mem_cons_of_mem _ hy), h x List.mem_cons_self, Nat.add_mul, Nat.one_mul]
    omega
theorem cell_addr {w : World} {a : Addr} {v : Value} (h : w.cell? a = some v) : a = ⟨a.block, a.off, none⟩ ∧ a.block < w.heap.size := by
  unfold World.cell? at h
  split at h
  · rename_i c _ _ hb
    split at h
    · cases h
    · rename_i hs
      refine ⟨?_, ?_⟩
      · obtain ⟨b, o, s⟩ := a
        cases s with
        | none => rfl
        | some s => simp at hs
      · rcases Nat.lt_or_ge a.block w.heap.size with h1 | h1
        · exact h1
        · rw [Array.getElem?_eq_none h1] at hb; cases hb
  · cases h
theorem add_none (b off k : Nat) : Addr.add ⟨b, off, none⟩ k = ⟨b, off + k, none⟩ := by
  unfold Addr.add
  split
  · rename_i h; subst h; rfl
  · rfl
theorem rd_slice {α : Type} {P : Program} {t e : TypeId} {c : α → List Dat} {sz : Nat} [Wid c sz] {wf : α → Prop} (hu : P.underlying t = some (.slice e)) (hC : P.cellsOf e = sz) (h0 : 0 < sz) {B : Nat} (hB : P.bytesOf e = B) (hk : Rd P e c wf) :
    Rd P t (fun l : List α => [rowsOf c l]) (fun l => l.length ≤ maxLen ∧ l.length * B ≤ 140737488351232 ∧ ∀ x ∈ l, wf x) := by
  constructor
  intro H enc w base held fuel cs x h hz
  rcases Go.Deep.open_slice hu h with ⟨rfl, _⟩ | ⟨a, len, cap, m, n, D, Pl, rfl, hb, hl, hm, hmm, hx, hi⟩
  · exact ⟨[], .cons _ _ _ _ .nil .nil, by simp, by simp, by simp⟩
  · simp only [if_true] at hmm
    subst hmm
    have hzl : len * B ≤ 140737488351232 := by
      have h1 := hz ((((List.range len).map D).length + ((List.range (m - len)).map fun j => D (len + j)).length) * P.bytesOf e) (by rw [hx]; simp [DataW.weights, hu])
      rw [hB, List.length_map, List.length_range] at h1
      exact Nat.le_trans (Nat.mul_le_mul_right _ (Nat.le_add_right _ _)) h1
    have hze : ∀ i, i < len → ∀ n ∈ (D i).weights P e, n ≤ reachBytes := by
      intro i hil n hn
      refine hz n ?_
      rw [hx]
      simp only [DataW.weights, hu]
      refine List.mem_cons_of_mem _ (List.mem_append_left _ ?_)
      exact weightsAll_mem (List.mem_map.2 ⟨i, List.mem_range.2 hil, rfl⟩) n hn
    by_cases hc0 : m = 0
    · subst hc0
      obtain rfl : len = 0 := by omega
      exact ⟨[], .cons _ _ _ _ (.cut a) .nil, by simp, by simp, by simp⟩
    have ha : a = ⟨a.block, a.off, none⟩ ∧ a.block < w.heap.size := by
      obtain ⟨cs', h1, _⟩ := hi 0 (by omega)
      obtain ⟨_, h2, h3⟩ := World.cells?_some h1
      have h4 := h3 0 (by omega)
      rw [List.getElem?_eq_getElem (by omega)] at h4
      have h5 : (a.add (0 * P.cellsOf e)).add 0 = a := by simp [Addr.add]
      rw [h5] at h4
      exact cell_addr h4
    obtain ⟨ea, hlt⟩ := ha
    obtain ⟨b, off, eb⟩ : ∃ b off, a = ⟨b, off, none⟩ := ⟨_, _, ea⟩
    subst eb
    have hall : ∀ i, i < len → ∃ q : α × List Value, (q.2.length = sz ∧ ∀ j v, q.2[j]? = some v → w.cell? ⟨b, off + i * sz + j, none⟩ = some v) ∧ KDs w (c q.1) q.2 ∧ wf q.1 := by
      intro i hil
      obtain ⟨cs', h1, h2⟩ := hi i (by omega)
      obtain ⟨v, hv, hw⟩ := hk.out h2 (hze i hil)
      obtain ⟨_, h3, h4⟩ := World.cells?_some h1
      refine ⟨(v, cs'), ⟨by rw [h3, hC], fun j u hj => ?_⟩, hv, hw⟩
      have hjl : j < P.cellsOf e := by
        have := (List.getElem?_eq_some_iff.1 hj).1
        simp only at this; omega
      have h5 := h4 j hjl
      rw [hC, add_none, add_none] at h5
      rw [h5]; exact hj
    obtain ⟨xs, hxl, hxs⟩ := choose_list len _ hall
    have hmem : ∀ q ∈ xs, q.2.length = sz ∧ KDs w (c q.1) q.2 ∧ wf q.1 := fun q hq => by
      obtain ⟨i, hi', rfl⟩ := List.getElem_of_mem hq
      obtain ⟨h1, h2, h3⟩ := hxs i _ (List.getElem?_eq_getElem hi')
      exact ⟨h1.1, h2, h3⟩
    refine ⟨xs.map (·.1), .cons _ _ _ _ ?_ .nil, by rw [List.length_map]; omega, by rw [List.length_map, hxl]; exact hzl, fun v hv => ?_⟩
    · have hlen : ((xs.map (·.1)).map c).length = len := by simp [hxl]
      have := KD.rows (w := w) ((xs.map (·.1)).map c) b off m sz (xs.map (·.2)).flatten hlt (fun r hr => by
        obtain ⟨y, _, rfl⟩ := List.mem_map.1 hr; exact Wid.w y) (by rw [hlen]; exact hl) (by rw [flat_size xs fun q hq => (hmem q hq).1, hlen, hxl])
        (cells_flat xs off fun i q hq => (hxs i q hq).1) (kds_flat xs fun q hq => (hmem q hq).2.1)
      rw [hlen] at this
      exact this
    · obtain ⟨q, hq, rfl⟩ := List.mem_map.1 hv
      exact (hmem q hq).2.2
/-- Fields that stand behind one another, from a cell on. -/
structure RdF {α : Type} (P : Program) (fs : List Field) (o n : Nat) (c : α → List Dat) (wf : α → Prop) : Prop where
  mk ::
  out : ∀ {H : Type} {enc : TypeId × Value → H} {w : World} {base : Nat} {held : Bool} {k : Nat} {cs : List Value}, cs.length = o + n →
    (∀ (f : Field), f ∈ fs → ∃ y, DataW.trod enc P w base (fun _ => true) held k f.type ((cs.drop f.offset).take (P.cellsOf f.type)) = some y ∧ ∀ n ∈ y.1.weights P f.type, n ≤ reachBytes) → ∃ v, KDs w (c v) (cs.drop o) ∧ wf v
theorem rdf_last {α : Type} {P : Program} {f : Field} {o n : Nat} {c : α → List Dat} {wf : α → Prop} (ho : f.offset = o) (hC : P.cellsOf f.type = n) (hk : Rd P f.type c wf) : RdF P [f] o n c wf := by
  constructor
  intro H enc w base held k cs hl h
  obtain ⟨y, hy, hz⟩ := h f (List.mem_singleton.2 rfl)
  rw [ho, hC, List.take_of_length_le (by simp; omega)] at hy
  exact hk.out hy hz
theorem rdf_cons {α β : Type} {P : Program} {f : Field} {fs : List Field} {o n m : Nat} {ca : α → List Dat} {cb : β → List Dat} {wa : α → Prop} {wb : β → Prop} (ho : f.offset = o) (hC : P.cellsOf f.type = n) (ha : Rd P f.type ca wa) (hb : RdF P fs (o + n) m cb wb) :
    RdF P (f :: fs) o (n + m) (fun v : α × β => ca v.1 ++ cb v.2) (fun v => wa v.1 ∧ wb v.2) := by
  constructor
  intro H enc w base held k cs hl h
  obtain ⟨y, hy, hz⟩ := h f List.mem_cons_self
  rw [ho, hC] at hy
  obtain ⟨v, hv, hw⟩ := ha.out hy hz
  obtain ⟨u, hu, hq⟩ := hb.out (by omega) (fun g hg => h g (List.mem_cons_of_mem _ hg))
  refine ⟨(v, u), ?_, hw, hq⟩
  have := hv.append hu
  rw [← List.drop_drop, List.take_append_drop] at this
  exact this
theorem rd_struct {α : Type} {P : Program} {t : TypeId} {fs : Array Field} {n : Nat} {c : α → List Dat} {wf : α → Prop} (hu : P.underlying t = some (.struct fs)) (hC : P.cellsOf t = n) (hk : RdF P fs.toList 0 n c wf) : Rd P t c wf := by
  constructor
  intro H enc w base held fuel cs x h hz
  obtain ⟨xs, k, _, hx, hl, hxl, hf⟩ := DataW.trod_struct hu h
  rw [hx] at hz
  simp only [DataW.weights, hu] at hz
  obtain ⟨v, hv, hw⟩ := hk.out (k := k) (cs := cs) (by rw [hl, hC]; omega) (fun f hfm => by
    obtain ⟨i, hi, rfl⟩ := List.getElem_of_mem hfm
    have hi2 : i < fs.size := by simpa using hi
    have hx := hf i (fs.toList[i]) (by rw [Array.getElem_toList]; exact Array.getElem?_eq_getElem hi2)
    rw [List.getElem?_eq_getElem (by omega)] at hx
    refine ⟨_, hx, fun m hm => hz m ?_⟩
    refine DataW.weights_mem_each (j := i) (t := fs.toList[i].type) (d := (xs[i]'(by omega)).1) ?_ ?_ m hm
    · rw [List.getElem?_map, List.getElem?_eq_getElem hi]; rfl
    · rw [List.getElem?_map, List.getElem?_eq_getElem (by omega)]; rfl)
  exact ⟨v, hv, hw⟩
theorem rd_map {α β : Type} {P : Program} {t : TypeId} {c : α → List Dat} {c' : β → List Dat} {wf : α → Prop} {wf' : β → Prop} (g : α → β) (hc : ∀ a, c' (g a) = c a) (hw : ∀ a, wf a → wf' (g a)) (hk : Rd P t c wf) : Rd P t c' wf' := by
  constructor
  intro H enc w base held fuel cs x h hz
  obtain ⟨a, ha, q⟩ := hk.out h hz
  exact ⟨g a, by rw [hc]; exact ha, hw a q⟩
/-- The j-th argument's weights. -/
theorem weights_at {H : Type} {P : Program} {ts : List TypeId} {ds : List (DataW H)} {j : Nat} {t : TypeId} {d : DataW H} (h : (DataW.weightsEach P ts ds).all (· ≤ reachBytes) = true) (ht : ts[j]? = some t) (hd : ds[j]? = some d) :
    ∀ n ∈ d.weights P t, n ≤ reachBytes := fun n hn => by
  have := List.all_eq_true.1 h _ (DataW.weights_mem_each ht hd n hn)
  simpa using this
/-- An argument of one cell. -/
theorem arg_one {α : Type} {H : Type} {enc : TypeId × Value → H} {P : Program} {W : World} {base : Nat} {held : Bool} {t : TypeId} {c : α → List Dat} {x : α → Dat} {wf : α → Prop} {v : Value} {d : DataW H} {ps : List MemPlace}
    (hk : Rd P t c wf) (hc : ∀ a, c a = [x a]) (h : DataW.Trod enc P W base (fun _ => true) held t v d ps) (hz : ∀ n ∈ d.weights P t, n ≤ reachBytes) (hv : v.cells = #[v]) : ∃ a, KV W (.d (x a)) v ∧ wf a := by
  obtain ⟨fuel, hf⟩ := h
  rw [hv] at hf
  obtain ⟨a, ha, hw⟩ := hk.out hf hz
  rw [hc] at ha
  cases ha with
  | cons _ _ _ _ h1 _ => exact ⟨a, .d _ _ h1, hw⟩
/-- An argument that is a struct. -/
theorem arg_struct {α : Type} {H : Type} {enc : TypeId × Value → H} {P : Program} {W : World} {base : Nat} {held : Bool} {t : TypeId} {c : α → List Dat} {wf : α → Prop} {v : Value} {d : DataW H} {ps : List MemPlace}
    (hk : Rd P t c wf) (h : DataW.Trod enc P W base (fun _ => true) held t v d ps) (hz : ∀ n ∈ d.weights P t, n ≤ reachBytes) (hv : ∃ cs, v = .agg cs) : ∃ a, KV W (.agg ((c a).map .d)) v ∧ wf a := by
  obtain ⟨cs, rfl⟩ := hv
  obtain ⟨fuel, hf⟩ := h
  obtain ⟨a, ha, hw⟩ := hk.out hf hz
  refine ⟨a, ?_, hw⟩
  have : KDs W (c a) cs.toList := by simpa [Value.cells] using ha
  exact .agg _ _ this
end Go.Abs
