/- The reader of numbers out of bytes (ask.reader): byte1, num, rest. No condition but that the bytes can be read. -/
import Derived.Test.YtiaibplflmjohaaProg
import Derived.Test.YtiaibplflmjohaaWWords
import Derived.WalkKit
import Derived.KernelRfl
import Derived.Below
import Derived.Tactics
import Derived.Tactics2
import Derived.WalkSpells
import Derived.Test.YtiaibplflmjohaaWMore
namespace Go.Proofs.Ytiaibplflmjohaa.GRead
open Go.RowKit Go.Proofs.YtiaibplflmjohaaW.PrintWords
set_option linter.unusedVariables false
set_option linter.unusedSimpArgs false
/-- A reader at block g: what is left of bytes that came in by w0, and whether something was bad. -/
def Rd (w0 w : World) (g : Nat) (l : List Int) (bad : Bool) : Prop :=
  ∃ A c, w.heap[g]? = some (.cells #[.slice A l.length c, .bool bad] 71 (0, 0)) ∧ l.length ≤ c ∧ (Kd.int .u8).C w0 A l.length l ∧ w0.heap.size ≤ g ∧ Below w0.heap.size w0 w
def rb1 (l : List Int) (bad : Bool) : Int × List Int × Bool := if bad then (0, l, true) else if l.length = 0 then (0, l, true) else (rd l 0, l.drop 1, false)
theorem info_u8 : (Try.prog.info? 5).map (fun i => (i.zero, i.size, i.bytes)) = some (some (.int .u8 0), 1, 1) := by kernel_rfl
theorem below_self {w : World} {g : Nat} {w0 : World} (hb : Below w0.heap.size w0 w) (hg : w0.heap.size ≤ g) (j : Nat) (u : Value) : Below w0.heap.size w0 (w.setCell ⟨g, j, none⟩ u) := hb.setCell (p := ⟨g, j, none⟩) hg u
set_option maxHeartbeats 800000 in
theorem byte1_any (w0 : World) (g : Nat) (l : List Int) (bad : Bool) (w : World) (h : Rd w0 w g l bad) :
    Calls Try.prog 40 #[.pointer (some ⟨g, 0, none⟩)] w fun e w' => e = .returned (.int .u8 (rb1 l bad).1) ∧ Rd w0 w' g (rb1 l bad).2.1 (rb1 l bad).2.2 ∧ KeepBut w w' g none := by
  obtain ⟨A, c, hg, hc, hC, hge, hB⟩ := h
  have c0 : w.cell? ⟨g, 0, none⟩ = some (.slice A l.length c) := (blk_cell hg 0).trans rfl
  have c1 : w.cell? ⟨g, 1, none⟩ = some (.bool bad) := (blk_cell hg 1).trans rfl
  have f0 := blk_frozen hg 0
  have f1 := blk_frozen hg 1
  have HG := Aside0.mk hg
  have HC := Aside0.mk hC
  have HB := Aside0.mk hB
  have Hge := Aside0.mk hge
  have Hc := Aside0.mk hc
  clear hg hC hB hge hc
  cases bad with
  | true =>
    go_enter Try.func40, Try.ntmps40
    go_wp2
    go_ret
    refine ⟨rfl, ⟨A, c, by simpa [rb1] using blk_set HG.out 1 (.bool true), Hc.out, HC.out, Hge.out, below_self HB.out Hge.out _ _⟩, (KeepBut.refl _ _ _).set_ _ _⟩
  | false =>
    by_cases hl : l.length = 0
    · have b0 : ((l.length : Int) == 0) = true := by simpa using hl
      have Hl := Aside0.mk hl
      clear hl
      go_enter Try.func40, Try.ntmps40
      go_wp2
      go_ret
      have e : rb1 l false = (0, l, true) := by unfold rb1; rw [if_neg (by decide), if_pos Hl.out]
      rw [e]
      refine ⟨rfl, ⟨A, c, by simpa using blk_set HG.out 1 (.bool true), Hc.out, HC.out, Hge.out, below_self HB.out Hge.out _ _⟩, (KeepBut.refl _ _ _).set_ _ _⟩
    · have b0 : ((l.length : Int) == 0) = false := by simpa using hl
      obtain ⟨i0, hi, _, hsz, _⟩ := info_parts info_u8
      obtain ⟨A', hcut, hA, hcap⟩ := print_drop_of (P := Try.prog) (Value.int .u8) 0 27 5 .i64 Try.underlying27 hi hsz A c l 1 (by omega) (by omega) Hc.out
      have hCt := Kd.C_of_reads (h1 := fun _ => rfl) (hA _ (Kd.reads_of_C HC.out))
      obtain ⟨ad, rfl, hx⟩ := Kd.at_int (Kd.C_below HC.out (below_self HB.out Hge.out 1 (.bool false))) 0 (by omega) (by omega)
      have hx' : (w.setCell ⟨g, 1, none⟩ (.bool false)).cell? ad = some (.int .u8 (rd l 0)) := by simpa [Addr.add] using hx
      obtain ⟨n, hn⟩ : ∃ n, n = (l.drop (1 : Int).toNat).length := ⟨_, rfl⟩
      rw [← hn] at hcut
      have HN := Aside0.mk hn
      have HCt := Aside0.mk hCt
      have Hcap := Aside0.mk hcap
      have hpos : (0 : Int) < (l.length : Int) := by omega
      have e : rb1 l false = (rd l 0, l.drop 1, false) := by unfold rb1; rw [if_neg (by decide), if_neg hl]
      have E := Aside0.mk e
      clear hx hCt hA hi hsz hcap hn hl e
      go_enter Try.func40, Try.ntmps40
      go_wp2
      go_ret
      rw [E.out]
      have s1 : ((w.setCell ⟨g, 1, none⟩ (.bool false)).setCell ⟨g, 0, none⟩ (.slice A' n (c - 1))).heap[g]? = some (.cells #[.slice A' (l.drop 1).length (c - 1), .bool false] 71 (0, 0)) := by
        have := blk_set (blk_set HG.out 1 (.bool false)) 0 (.slice A' n (c - 1))
        rw [HN.out] at this ⊢
        simpa using this
      refine ⟨rfl, ⟨A', c - 1, s1, Hcap.out, HCt.out, Hge.out, below_self (below_self HB.out Hge.out _ _) Hge.out _ _⟩, ((KeepBut.refl _ _ _).set_ _ _).set_ _ _⟩
def two (h l : Int) : Int := Go.bits .or .u16 (IntKind.u16.wrap (IntKind.u16.wrap h * 256)) (IntKind.u16.wrap l)
def rnum (l : List Int) (bad : Bool) : Int × List Int × Bool :=
  let a := rb1 l bad
  let b := rb1 a.2.1 a.2.2
  (two a.1 b.1, b.2.1, b.2.2)
set_option maxHeartbeats 800000 in
theorem num_any (w0 : World) (g : Nat) (l : List Int) (bad : Bool) (w : World) (h : Rd w0 w g l bad) :
    Calls Try.prog 41 #[.pointer (some ⟨g, 0, none⟩)] w fun e w' => e = .returned (.int .u16 (rnum l bad).1) ∧ Rd w0 w' g (rnum l bad).2.1 (rnum l bad).2.2 ∧ KeepBut w w' g none := by
  go_enter Try.func41, Try.ntmps41
  go_wp2_with fail
  refine (byte1_any w0 g l bad w h).mono ?_
  rintro e w1 ⟨rfl, h1, k1⟩
  have H1 := Aside0.mk h1
  have K1 := Aside0.mk k1
  clear h h1 k1
  obtain ⟨x, hx⟩ : ∃ x, x = (rb1 l bad).1 := ⟨_, rfl⟩
  rw [← hx]
  have Hx := Aside0.mk hx
  clear hx
  go_wp2_with fail
  refine (byte1_any w0 g _ _ w1 H1.out).mono ?_
  rintro e w2 ⟨rfl, h2, k2⟩
  have H2 := Aside0.mk h2
  have K2 := Aside0.mk k2
  clear h2 k2
  obtain ⟨y, hy⟩ : ∃ y, y = (rb1 (rb1 l bad).2.1 (rb1 l bad).2.2).1 := ⟨_, rfl⟩
  rw [← hy]
  have Hy := Aside0.mk hy
  clear hy
  go_wp2
  go_ret
  exact ⟨by rw [Hx.out, Hy.out]; rfl, H2.out, K1.out.trans K2.out (.inl rfl)⟩
/-- What is left, if it is as many as the next byte says; what is left then. -/
def rrest (l : List Int) (bad : Bool) : List Int × List Int × Bool :=
  let a := rb1 l bad
  if a.2.2 = true then ([], a.2.1, true) else if wrap64 a.1 = (a.2.1.length : Int) then (a.2.1, [], false) else ([], a.2.1, true)
theorem rd_cells {w0 w : World} {g : Nat} {l : List Int} {bad : Bool} (h : Rd w0 w g l bad) : ∃ A c, w.cell? ⟨g, 0, none⟩ = some (.slice A l.length c) ∧ w.cell? ⟨g, 1, none⟩ = some (.bool bad) ∧ w.frozen? ⟨g, 0, none⟩ = false ∧ w.frozen? ⟨g, 1, none⟩ = false ∧ l.length ≤ c ∧ (Kd.int .u8).C w0 A l.length l := by
  obtain ⟨A, c, hg, hc, hC, hge, hB⟩ := h
  exact ⟨A, c, (blk_cell hg 0).trans rfl, (blk_cell hg 1).trans rfl, blk_frozen hg 0, blk_frozen hg 1, hc, hC⟩
theorem rd_bad {w0 w : World} {g : Nat} {l : List Int} {bad : Bool} (h : Rd w0 w g l bad) (b : Bool) : Rd w0 (w.setCell ⟨g, 1, none⟩ (.bool b)) g l b := by
  obtain ⟨A, c, hg, hc, hC, hge, hB⟩ := h
  exact ⟨A, c, by simpa using blk_set hg 1 (.bool b), hc, hC, hge, below_self hB hge _ _⟩
theorem rd_none {w0 w : World} {g : Nat} {l : List Int} {bad : Bool} (h : Rd w0 w g l bad) : Rd w0 (w.setCell ⟨g, 0, none⟩ (.slice none 0 0)) g [] bad := by
  obtain ⟨A, c, hg, hc, hC, hge, hB⟩ := h
  exact ⟨none, 0, by simpa using blk_set hg 0 (.slice none 0 0), by simp, Kd.C_of_reads (d := (0 : Int)) (h1 := fun _ => rfl) ⟨rfl, by simp, fun h => absurd h (by simp)⟩, hge, below_self hB hge _ _⟩
theorem C_nil {w : World} : (Kd.int .u8).C w none 0 [] := Kd.C_of_reads (d := (0 : Int)) (h1 := fun _ => rfl) ⟨rfl, by simp, fun h => absurd h (by simp)⟩
set_option maxHeartbeats 800000 in
theorem rest_any (w0 : World) (g : Nat) (l : List Int) (bad : Bool) (w : World) (h : Rd w0 w g l bad) :
    Calls Try.prog 44 #[.pointer (some ⟨g, 0, none⟩)] w fun e w' => ∃ A c, e = .returned (.slice A (rrest l bad).1.length c) ∧ (rrest l bad).1.length ≤ c ∧ (Kd.int .u8).C w0 A (rrest l bad).1.length (rrest l bad).1 ∧ Rd w0 w' g (rrest l bad).2.1 (rrest l bad).2.2 ∧ KeepBut w w' g none := by
  obtain ⟨r, hr⟩ : ∃ r, r = rrest l bad := ⟨_, rfl⟩
  rw [← hr]
  have Hr := Aside0.mk hr
  clear hr
  go_enter Try.func44, Try.ntmps44
  go_wp2_with fail
  refine (byte1_any w0 g l bad w h).mono ?_
  rintro e w1 ⟨rfl, h1, k1⟩
  clear h
  have hr := Hr.out
  clear Hr
  unfold rrest at hr
  obtain ⟨a, ha⟩ : ∃ a, a = rb1 l bad := ⟨_, rfl⟩
  rw [← ha] at hr h1 ⊢
  clear ha
  obtain ⟨n, t, b⟩ := a
  have HR := Aside0.mk hr
  clear hr
  obtain ⟨A, c, c0, c1, f0, f1, hc, hC⟩ := rd_cells h1
  have H1 := Aside0.mk h1
  have K1 := Aside0.mk k1
  have Hc := Aside0.mk hc
  have HC := Aside0.mk hC
  clear h1 k1 hc hC
  cases b with
  | true =>
    go_wp2
    go_ret
    have e : r = ([], t, true) := by rw [HR.out]; simp
    subst e
    exact ⟨none, 0, rfl, by simp, C_nil, rd_bad H1.out true, K1.out.trans ((KeepBut.refl _ _ _).set_ _ _) (.inl rfl)⟩
  | false =>
    by_cases hn : wrap64 n = (t.length : Int)
    · have e : r = (t, [], false) := by rw [HR.out]; simp [hn]
      have E := Aside0.mk e
      clear e
      have b1 : (wrap64 n == (t.length : Int)) = true := by simpa using hn
      have b2 : (wrap64 n != (t.length : Int)) = false := by simpa using hn
      clear hn
      go_wp2
      go_ret
      rw [E.out]
      exact ⟨A, c, rfl, Hc.out, HC.out, rd_none (rd_bad H1.out false), K1.out.trans (((KeepBut.refl _ _ _).set_ _ _).set_ _ _) (.inl rfl)⟩
    · have e : r = ([], t, true) := by rw [HR.out]; simp [hn]
      have E := Aside0.mk e
      clear e
      have b1 : (wrap64 n == (t.length : Int)) = false := by simpa using hn
      have b2 : (wrap64 n != (t.length : Int)) = true := by simpa using hn
      clear hn
      go_wp2
      go_ret
      rw [E.out]
      exact ⟨none, 0, rfl, by simp, C_nil, rd_bad H1.out true, K1.out.trans ((KeepBut.refl _ _ _).set_ _ _) (.inl rfl)⟩
/-- Numbers of two bytes each; is one cut short? -/
def pairsF : List Int → List Int × Bool
  | [] => ([], false)
  | [x] => ([two x 0], true)
  | x :: y :: t => (two x y :: (pairsF t).1, (pairsF t).2)
def rwords (l : List Int) (bad : Bool) : List Int × List Int × Bool :=
  let a := rrest l bad
  ((pairsF a.1).1, a.2.1, a.2.2 || (pairsF a.1).2)
theorem rd_new {w0 w : World} {A : Option Addr} {c : Nat} {l : List Int} (hc : l.length ≤ c) (hC : (Kd.int .u8).C w0 A l.length l) (hB : Below w0.heap.size w0 w) : Rd w0 (w.alloc (.cells #[.slice A l.length c, .bool false] 71 (0, 0))) w.heap.size l false :=
  ⟨A, c, heap_alloc_new _ _, hc, hC, hB.size, below_alloc hB _⟩
theorem rd_below {w0 w : World} {g : Nat} {l : List Int} {bad : Bool} (h : Rd w0 w g l bad) : Below w0.heap.size w0 w := by
  obtain ⟨A, c, hg, hc, hC, hge, hB⟩ := h
  exact hB
theorem rd_lt {w0 w : World} {g : Nat} {l : List Int} {bad : Bool} (h : Rd w0 w g l bad) : g < w.heap.size := by
  obtain ⟨A, c, hg, hc, hC, hge, hB⟩ := h
  exact blk_lt hg
theorem pairs_step (l : List Int) (h : 0 < l.length) : (pairsF l).1 = (rnum l false).1 :: (pairsF (rnum l false).2.1).1 ∧ (pairsF l).2 = ((rnum l false).2.2 || (pairsF (rnum l false).2.1).2) ∧ ((rnum l false).2.2 = true → (rnum l false).2.1 = []) ∧ (rnum l false).2.1.length < l.length := by
  match l, h with
  | [x], _ => simp [pairsF, rnum, rb1, rd]
  | x :: y :: t, _ => simp [pairsF, rnum, rb1, rd]; omega
theorem rb1_len (l : List Int) (bad : Bool) : (rb1 l bad).2.1.length ≤ l.length := by
  unfold rb1
  split
  · simp
  · split <;> simp
theorem rrest_len (l : List Int) (bad : Bool) : (rrest l bad).1.length ≤ l.length := by
  have := rb1_len l bad
  unfold rrest
  simp only
  split
  · simp
  · split
    · simpa using this
    · simp
theorem info_u16 : (Try.prog.info? 22).map (fun i => (i.zero, i.size, i.bytes)) = some (some (.int .u16 0), 1, 2) := by kernel_rfl
theorem rd_blk {w0 w : World} {g : Nat} {l : List Int} {bad : Bool} (h : Rd w0 w g l bad) : ∃ cs, w.heap[g]? = some (.cells cs 71 (0, 0)) := by
  obtain ⟨A, c, hg, hc, hC, hge, hB⟩ := h
  exact ⟨_, hg⟩
theorem rd_ge {w0 w : World} {g : Nat} {l : List Int} {bad : Bool} (h : Rd w0 w g l bad) : w0.heap.size ≤ g := by
  obtain ⟨A, c, hg, hc, hC, hge, hB⟩ := h
  exact hge
theorem rd_step {w0 w w' : World} {g : Nat} {l : List Int} {bad : Bool} (h : Rd w0 w g l bad) (hk : w'.heap[g]? = w.heap[g]?) (hB : Below w0.heap.size w0 w') : Rd w0 w' g l bad := by
  obtain ⟨A, c, hg, hc, hC, hge, _⟩ := h
  exact ⟨A, c, hk.trans hg, hc, hC, hge, hB⟩
theorem rd_alloc {w0 w : World} {g : Nat} {l : List Int} {bad : Bool} (h : Rd w0 w g l bad) (o : Obj) : Rd w0 (w.alloc o) g l bad :=
  rd_step h (Below.heap_alloc w o g (rd_lt h)) (below_alloc (rd_below h) o)
theorem rd_blk2 {w0 w : World} {g : Nat} {l : List Int} {bad : Bool} (h : Rd w0 w g l bad) : w.heap[g]? = some (.cells (rd_blk h).choose 71 (0, 0)) := (rd_blk h).choose_spec
theorem keep_own {w wr w2 w9 : World} {g g2 : Nat} {o : Option Nat} (h1 : KeepBut w wr g none) (h2 : KeepBut wr w2 g2 none) (h3 : w2.grownBy w9 o) (hg : w.heap.size ≤ g2) (ho : ∀ k, o = some k → w.heap.size ≤ k) : KeepBut w w9 g none :=
  ⟨Nat.le_trans h1.1 (Nat.le_trans h2.1 h3.size), fun i hi hg' _ => by
    refine (h3.block i (Nat.lt_of_lt_of_le hi (Nat.le_trans h1.1 h2.1)) ?_).trans ((h2.2 i (Nat.lt_of_lt_of_le hi h1.1) (by omega) (by simp)).trans (h1.2 i hi hg' (by simp)))
    intro e
    have := ho i e.symm
    omega⟩
theorem words_R {w0 w w' : World} {g : Nat} {l : List Int} {bad : Bool} {v : Value} {xs : List Int} (h : (Kd.int .u16).R 22 w' w0.heap.size (fun k => w.heap.size ≤ k) v xs) (hr : Rd w0 w' g l bad) (b : Bool) : (Kd.int .u16).R 22 (w'.setCell ⟨g, 1, none⟩ (.bool b)) w0.heap.size (fun k => w.heap.size ≤ k) v xs := by
  have := Kd.R_types h (rd_blk2 hr) (by simp [Kd.int, Kd.scalar])
  exact Kd.R_mono (Kd.R_keep this ((KeepBut.refl w' g none).set_ 1 (.bool b)) (fun k hk => hk.2)) (fun k hk => hk.1)
set_option maxHeartbeats 800000 in
theorem words_any (w0 : World) (g : Nat) (l : List Int) (bad : Bool) (w : World) (h : Rd w0 w g l bad) (hm : l.length < 35184372088832) :
    Calls Try.prog 43 #[.pointer (some ⟨g, 0, none⟩)] w fun e w' => ∃ v, e = .returned v ∧ (Kd.int .u16).R 22 w' w0.heap.size (fun k => w.heap.size ≤ k) v (rwords l bad).1 ∧ Rd w0 w' g (rwords l bad).2.1 (rwords l bad).2.2 ∧ KeepBut w w' g none := by
  obtain ⟨r, hr⟩ : ∃ r, r = rwords l bad := ⟨_, rfl⟩
  rw [← hr]
  have Hr := Aside0.mk hr
  clear hr
  go_enter Try.func43, Try.ntmps43
  go_wp2_with fail
  refine (rest_any w0 g l bad w h).mono ?_
  rintro e w1 ⟨A, c, rfl, hc, hC, h1, k1⟩
  clear h
  have hr := Hr.out
  clear Hr
  unfold rwords at hr
  have hdl := rrest_len l bad
  obtain ⟨a, ha⟩ : ∃ a, a = rrest l bad := ⟨_, rfl⟩
  rw [← ha] at hr h1 hc hC hdl ⊢
  clear ha
  obtain ⟨d, t, b⟩ := a
  have HR := Aside0.mk hr
  have H1 := Aside0.mk h1
  have K1 := Aside0.mk k1
  have HC := Aside0.mk hC
  have Hc := Aside0.mk hc
  have HD := Aside0.mk (Nat.lt_of_le_of_lt hdl hm)
  clear hr h1 k1 hc hC hdl hm
  have kg : KeepBut w (w1.alloc (.cells #[.slice A d.length c, .bool false] 71 (0, 0))) g none := K1.out.trans (KeepBut.of_below (below_alloc (Below.refl _ _) _) _ _) (.inl rfl)
  have hin := rd_new Hc.out HC.out (rd_below H1.out)
  have hold := rd_alloc H1.out (.cells #[.slice A d.length c, .bool false] 71 (0, 0))
  have hws : w.heap.size ≤ w1.heap.size := K1.out.1
  have hgs : g < w1.heap.size := rd_lt H1.out
  have KG := Aside0.mk kg
  have HIN := Aside0.mk hin
  have HOLD := Aside0.mk hold
  have HWS := Aside0.mk hws
  have HGS := Aside0.mk hgs
  clear kg hin hold hws hgs
  go_wp2_with fail
  go_loopg [4] (d.length) (fun k v4 wx => ∃ (d' : List Int) (b' : Bool) (ys : List Int), Aside0 (Rd w0 wx w1.heap.size d' b') ∧ Aside0 (Rd w0 wx g t b) ∧ Aside0 ((Kd.int .u16).R 22 wx w0.heap.size (fun k => w.heap.size ≤ k) v4 ys) ∧ Aside0 (KeepBut w wx g none) ∧ Aside0 (k = d'.length) ∧ Aside0 ((pairsF d).1 = ys ++ (pairsF d').1) ∧ Aside0 ((pairsF d).2 = (b' || (pairsF d').2)) ∧ Aside0 (b' = true → d' = []) ∧ Aside0 (ys.length + d'.length ≤ d.length))
  case atStart => exact ⟨d, false, [], HIN, HOLD, ⟨Kd.R_nil _ _ _ _ _⟩, KG, ⟨rfl⟩, ⟨rfl⟩, ⟨by simp⟩, ⟨by simp⟩, ⟨by simp⟩⟩
  case round =>
    obtain ⟨d', b', ys, HI, HO, HV, HK, HN, HE, HF, HZ, HL⟩ := hrel
    obtain ⟨A', c', c0, c1, f0, f1, hc, hC⟩ := rd_cells HI.out
    clear hc hC
    by_cases h0 : 0 < d'.length
    · have b0 := eq_true h0
      cases b' with
      | true =>
        exfalso
        have := HZ.out rfl
        subst this
        simp at h0
      | false =>
        have H0 := Aside0.mk h0
        clear h0
        obtain ⟨cs, hcs⟩ := rd_blk HI.out
        have hapart := Kd.R_types HV.out hcs (by simp [Kd.int, Kd.scalar])
        go_wp2_with fail
        refine (num_any w0 w1.heap.size d' false wr HI.out).mono ?_
        rintro e w2 ⟨rfl, h2, k2⟩
        obtain ⟨q1, q2, q3, q4⟩ := pairs_step d' H0.out
        obtain ⟨x, hx⟩ : ∃ x, x = (rnum d' false).1 := ⟨_, rfl⟩
        obtain ⟨d2, hd2⟩ : ∃ x, x = (rnum d' false).2.1 := ⟨_, rfl⟩
        obtain ⟨b2, hb2⟩ : ∃ x, x = (rnum d' false).2.2 := ⟨_, rfl⟩
        rw [← hx] at q1
        rw [← hb2] at q2 q3
        rw [← hd2] at q1 q2 q3 q4
        rw [← hx]
        rw [← hd2, ← hb2] at h2
        have hv2 := Kd.R_keep hapart k2 (fun k hk => hk.2)
        have hB2 := rd_below h2
        have hs2 := Nat.le_trans HK.out.1 k2.1
        have hO2 := rd_step HO.out (k2.2 g (rd_lt HO.out) (Nat.ne_of_lt HGS.out) (by simp)) hB2
        have hbt : ys.length + 1 < 35184372088833 := by
          have := HL.out
          have := H0.out
          have := HD.out
          omega
        have Q1 := Aside0.mk q1
        have Q2 := Aside0.mk q2
        have Q3 := Aside0.mk q3
        have Q4 := Aside0.mk q4
        have H2 := Aside0.mk h2
        have K2 := Aside0.mk k2
        have HV2 := Aside0.mk hv2
        have HB2 := Aside0.mk hB2
        have HS2 := Aside0.mk hs2
        have HO2 := Aside0.mk hO2
        have HBT := Aside0.mk hbt
        clear q1 q2 q3 q4 h2 k2 hv2 hB2 hs2 hO2 hbt hx hd2 hb2 hapart hcs c0 c1 f0 f1
        go_wp2_with ((with_reducible refine gate_builtin (b := .append) (xs := #[.tmp 22, .tmp 25]) rfl ?_); at_builtin; refine Kd.R_append (Kd.int .u16) (w0 := w0) w0.heap.size rfl (.tmp 22) (.tmp 25) 23 22 (.int .u16 0) 2 rfl Try.underlying23 info_u16 rfl (by decide) (by omega) u4 ys x [.int .u16 x] (fun k => w.heap.size ≤ k) (fun _ => False) rfl rfl ?aP (fun _ hk => hk.elim) ?aF ?aO ?aB ?aS ?aL ?_; (case aP => exact rfl); (case aB => exact HB2.out); (case aF => exact (fun _ hk => Nat.le_trans HS2.out hk)); (case aO => exact (Kd.R_mono HV2.out (fun _ hk => hk.1))); (case aS => exact HB2.out.size); (case aL => have := HBT.out; omega); intro v135 w9 ho hb hg hat; have n0_ := Aside0.mk (hb); have n1_ := Aside0.mk (ho); have n2_ := Aside0.mk (hg); clear ho hb hg hat)
        have own := Kd.R_ne HV2.out (rd_blk2 H2.out) (by decide)
        have own' := Kd.R_ne HV2.out (rd_blk2 HO2.out) (by decide)
        have hk9 : KeepBut w w9 g none := keep_own HK.out K2.out n2_.out HWS.out (fun k hk => (HV2.out.1 k hk).1)
        go_roundg d2.length
        case measure => have := Q4.out; have := HN.out; omega
        case rel => exact ⟨d2, b2, ys ++ [x], ⟨rd_step H2.out (n2_.out.block _ (rd_lt H2.out) own) n0_.out⟩, ⟨rd_step HO2.out (n2_.out.block _ (rd_lt HO2.out) own') n0_.out⟩, n1_, ⟨hk9⟩, ⟨rfl⟩, ⟨by rw [HE.out, Q1.out]; simp⟩, ⟨by rw [HF.out, Q2.out]; rfl⟩, Q3, ⟨by have := Q4.out; have := HL.out; simp only [List.length_append, List.length_cons, List.length_nil]; omega⟩⟩
    · have b0 := eq_false h0
      have h1' : d' = [] := by
        cases d' with
        | nil => rfl
        | cons x y => simp at h0
      have Hn := Aside0.mk h1'
      obtain ⟨_, _, co0, co1, fo0, fo1, hco, hCo⟩ := rd_cells HO.out
      clear h0 h1' hco hCo
      cases b with
      | true =>
        go_wp2
        go_ret
        exact ⟨u4, rfl, by rw [HR.out, HE.out, Hn.out]; simpa [pairsF] using words_R HV.out HO.out _, by rw [HR.out, HF.out, Hn.out]; simpa [pairsF] using rd_bad HO.out _, HK.out.set_ _ _⟩
      | false =>
        cases b' with
        | true =>
          go_wp2
          go_ret
          exact ⟨u4, rfl, by rw [HR.out, HE.out, Hn.out]; simpa [pairsF] using words_R HV.out HO.out _, by rw [HR.out, HF.out, Hn.out]; simpa [pairsF] using rd_bad HO.out _, HK.out.set_ _ _⟩
        | false =>
          go_wp2
          go_ret
          exact ⟨u4, rfl, by rw [HR.out, HE.out, Hn.out]; simpa [pairsF] using words_R HV.out HO.out _, by rw [HR.out, HF.out, Hn.out]; simpa [pairsF] using rd_bad HO.out _, HK.out.set_ _ _⟩
end Go.Proofs.Ytiaibplflmjohaa.GRead
