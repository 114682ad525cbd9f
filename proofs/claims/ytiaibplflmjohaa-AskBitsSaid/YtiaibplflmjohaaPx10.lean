/- The machine side of the laws of this seat, printed by a program of this session (wip/tools/mkprint.py) out of the kit print and of contracts proved by hand; Lean checks all of it. -/
import Derived.Test.YtiaibplflmjohaaPx0
import Derived.Test.YtiaibplflmjohaaPx8
import Derived.Test.YtiaibplflmjohaaPx9
import Derived.Test.YtiaibplflmjohaaGRead
namespace Go.Proofs.Ytiaibplflmjohaa.P
open Go.RowKit Go.Proofs.YtiaibplflmjohaaW.PrintWords Go.Proofs.YtiaibplflmjohaaW.PrintLast Go.Proofs.YtiaibplflmjohaaW.PrintMore
attribute [local go_sem] max2_int min2_int max_two min_two max_three min_three max_four min_four   -- for this text's walks alone
set_option linter.unusedVariables false
set_option linter.unusedSimpArgs false

-- GIVEN Derived.Test.YtiaibplflmjohaaGRead
/-- The bits of a byte, the lowest first. -/
def bt (c i : Int) : Bool := (Go.bits .and .u8 (shr .u8 c i) 1) == 1
def unp8 (c : Int) : List Bool := [bt c 0, bt c 1, bt c 2, bt c 3, bt c 4, bt c 5, bt c 6, bt c 7]
def unp (l : List Int) : List Bool := l.flatMap unp8
theorem unp_len (l : List Int) : (unp l).length = 8 * l.length := by
  induction l with
  | nil => rfl
  | cons x l ih => unfold unp at *; simp [ih, unp8]; omega
theorem unp_l1 (k : Nat) (acc : List Bool) (c : Int) (l : List Int) (n j : Int) (h : acc.length + 8 < 140737488355328) :
    ask_Unpack.l1 (k + 9) acc c l n j 0 = ask_Unpack.l0 k (acc ++ unp8 c) l n (wrap64 (j + 1)) := by
  have e : ∀ i : Int, 0 ≤ i → i < 8 → wrap64 (i + 1) = i + 1 := fun i h0 h1 => by unfold wrap64; omega
  iterate 8 (rw [ask_Unpack.l1, if_pos (by decide), if_pos (by decide), if_pos (by (try simp); omega), e _ (by decide) (by decide)])
  rw [ask_Unpack.l1, if_neg (by decide)]
  simp [unp8, bt]
theorem unp_l0 (n : Int) (l : List Int) (hl : l.length < 17592186044416) (hn : n = l.length) : ∀ (suf pre : List Int) (acc : List Bool) (k : Nat), l = pre ++ suf → acc.length = 8 * pre.length →
    ask_Unpack.l0 (k + 1 + 10 * suf.length) acc l n pre.length = some (acc ++ unp suf)
  | [], pre, acc, k, he, _ => by
    subst hn
    rw [show k + 1 + 10 * ([] : List Int).length = k + 1 by simp, ask_Unpack.l0, if_neg (by subst he; simp)]
    simp [unp]
  | x :: suf, pre, acc, k, he, ha => by
    have hlen : l.length = pre.length + (suf.length + 1) := by subst he; simp
    have e : wrap64 ((pre.length : Int) + 1) = ((pre ++ [x]).length : Int) := by
      simp only [List.length_append, List.length_cons, List.length_nil]
      unfold wrap64
      omega
    have hx : rd l (pre.length : Int) = x := by
      subst he
      simp [rd]
    rw [show k + 1 + 10 * (x :: suf).length = ((k + 1 + 10 * suf.length) + 9) + 1 by simp; omega]
    rw [ask_Unpack.l0, if_pos (by omega), if_pos (by omega), if_pos (by omega), hx, unp_l1 _ _ _ _ _ _ (by omega), e, unp_l0 n l hl hn suf (pre ++ [x]) (acc ++ unp8 x) k (by simp [he]) (by simp [unp8, ha]; omega)]
    simp [unp]
theorem unp_f (l : List Int) (hl : l.length < 17592186044416) : ask_Unpack.f (1 + 10 * l.length) l = some (unp l) := by
  have := unp_l0 l.length l hl rfl l [] [] 0 rfl rfl
  simpa [ask_Unpack.f] using this
theorem con_l0 (n : Int) (l : List Bool) (hl : l.length < 140737488355328) (hn : n = l.length) : ∀ (suf pre : List Bool) (k : Nat), l = pre ++ suf →
    ∃ r, slices_Index_bool_bool.l0 (k + 1 + suf.length) l true n pre.length = some r ∧ decide (r ≥ 0) = suf.any id
  | [], pre, k, he => by
    subst hn
    refine ⟨-1, ?_, by decide⟩
    rw [show k + 1 + ([] : List Bool).length = k + 1 by simp, slices_Index_bool_bool.l0, if_neg (by subst he; simp)]
  | x :: suf, pre, k, he => by
    have hlen : l.length = pre.length + (suf.length + 1) := by subst he; simp
    have e : wrap64 ((pre.length : Int) + 1) = ((pre ++ [x]).length : Int) := by
      simp only [List.length_append, List.length_cons, List.length_nil]
      unfold wrap64
      omega
    have hx : rdOf false l (pre.length : Int) = x := by
      subst he
      simp [rdOf]
    rw [show k + 1 + (x :: suf).length = (k + 1 + suf.length) + 1 by simp; omega]
    rw [slices_Index_bool_bool.l0, if_pos (by omega), if_pos (by omega), if_pos (by omega), hx, e]
    cases x with
    | true => exact ⟨pre.length, by simp, by simp⟩
    | false =>
      obtain ⟨r, h1, h2⟩ := con_l0 n l hl hn suf (pre ++ [false]) k (by simp [he])
      exact ⟨r, by simpa using h1, by simpa using h2⟩
theorem con_f (l : List Bool) (hl : l.length < 140737488355328) : slices_Contains_bool_bool.f (1 + l.length) l true = some (l.any id) := by
  obtain ⟨r, h1, h2⟩ := con_l0 l.length l hl rfl l [] 0 rfl
  unfold slices_Contains_bool_bool.f slices_Index_bool_bool.f
  simp only [Nat.zero_add] at h1
  have h1' : slices_Index_bool_bool.l0 (1 + l.length) l true l.length 0 = some r := h1
  rw [h1']
  simp [← h2]
/-- So many bits, packed. -/
def rbits (l : List Int) (bad : Bool) (n : Int) : List Bool × List Int × Bool :=
  let a := GRead.rrest l bad
  let u := unp a.1
  if a.2.2 = true then ([], a.2.1, true)
  else if (a.1.length : Int) ≠ wrap64 (Int.tdiv (wrap64 (n + 7)) 8) then ([], a.2.1, true)
  else if (u.drop n.toNat).any id = true then ([], a.2.1, true) else (u.take n.toNat, a.2.1, false)
open GRead in
theorem bits_R {w0 w w' : World} {g : Nat} {l : List Int} {bad : Bool} {v : Value} {xs : List Bool} (h : Kd.bool.R 4 w' w0.heap.size (fun k => w.heap.size ≤ k) v xs) (hr : Rd w0 w' g l bad) (b : Bool) : Kd.bool.R 4 (w'.setCell ⟨g, 1, none⟩ (.bool b)) w0.heap.size (fun k => w.heap.size ≤ k) v xs := by
  have := Kd.R_types h (rd_blk2 hr) (by simp [Kd.bool, Kd.scalar])
  exact Kd.R_mono (Kd.R_keep this ((KeepBut.refl w' g none).set_ 1 (.bool b)) (fun k hk => hk.2)) (fun k hk => hk.1)
open GRead in
theorem rd_drawn {w0 w w' : World} {g : Nat} {l : List Int} {bad : Bool} (h : Rd w0 w g l bad) (hd : Drawn0 w w') : Rd w0 w' g l bad :=
  rd_step h (hd.below.block g (rd_lt h)) ((rd_below h).trans (hd.below.mono (rd_below h).size))
open GRead in
set_option maxHeartbeats 800000 in
theorem bits_any (w0 : World) (g : Nat) (l : List Int) (bad : Bool) (w : World) (h : Rd w0 w g l bad) (hm : l.length < 17592186044416) (n : Int) (hn0 : 0 ≤ n) (hn1 : n < 65536) :
    Calls Try.prog 42 #[.pointer (some ⟨g, 0, none⟩), .int .i64 n] w fun e w' => ∃ v, e = .returned v ∧ Kd.bool.R 4 w' w0.heap.size (fun k => w.heap.size ≤ k) v (rbits l bad n).1 ∧ Rd w0 w' g (rbits l bad n).2.1 (rbits l bad n).2.2 ∧ KeepBut w w' g none := by
  obtain ⟨r, hr⟩ : ∃ r, r = rbits l bad n := ⟨_, rfl⟩
  rw [← hr]
  have Hr := Aside0.mk hr
  have Hn0 := Aside0.mk hn0
  have Hn1 := Aside0.mk hn1
  clear hr hn0 hn1
  go_enter Try.func42, Try.ntmps42
  go_wp2_with fail
  refine (rest_any w0 g l bad w h).mono ?_
  rintro e w1 ⟨A, c, rfl, hc, hC, h1, k1⟩
  clear h
  have hr := Hr.out
  clear Hr
  unfold rbits at hr
  have hdl := rrest_len l bad
  obtain ⟨a, ha⟩ : ∃ a, a = rrest l bad := ⟨_, rfl⟩
  rw [← ha] at hr h1 hc hC hdl ⊢
  clear ha
  obtain ⟨d, t, b⟩ := a
  have HR := Aside0.mk hr
  have H1 := Aside0.mk h1
  have K1 := Aside0.mk k1
  have HC := Aside0.mk hC
  have Hc := Aside0.mk hc
  have HD := Aside0.mk (Nat.lt_of_le_of_lt hdl hm)
  clear hr h1 k1 hc hC hdl hm
  go_wp2_with fail
  refine (ask_Unpack.calls _ A c d (unp d) w1 (Kd.C_below HC.out (rd_below H1.out)) Hc.out (unp_f d HD.out)).mono ?_
  rintro e w2 ⟨v, rfl, hv, hb2⟩
  obtain ⟨u, hu⟩ : ∃ u, u = unp d := ⟨_, rfl⟩
  have hul := unp_len d
  rw [← hu] at hv hul
  have hr := HR.out
  clear HR
  rw [← hu] at hr
  have HR := Aside0.mk hr
  obtain ⟨A2, c2, rfl, hc2, hC2⟩ := Kd.R_reads hv
  have hv2 : Kd.bool.R 4 w2 w0.heap.size (fun k => w.heap.size ≤ k) (.slice A2 u.length c2) u := Kd.R_lower (Kd.R_mono (Kd.R_bound hv) (fun k hk => Nat.le_trans K1.out.1 hk.2.1)) (rd_below H1.out).size
  have hB2 := (rd_below H1.out).trans (hb2.mono (rd_below H1.out).size)
  have h2 := rd_step H1.out (hb2.block g (rd_lt H1.out)) hB2
  have k2 : KeepBut w w2 g none := K1.out.trans (KeepBut.of_below hb2 g none) (.inl rfl)
  obtain ⟨_, _, c0, c1, f0, f1, _, _⟩ := rd_cells h2
  have HV2 := Aside0.mk hv2
  have HU := Aside0.mk hul
  have HC2 := Aside0.mk hC2
  have Hc2 := Aside0.mk hc2
  have HB2 := Aside0.mk hB2
  have H2 := Aside0.mk h2
  have K2 := Aside0.mk k2
  clear hr hu hul hv hv2 hc2 hC2 hb2 hB2 h2 k2
  have hi := info_parts info4
  obtain ⟨i0, hi, _, hsz, _⟩ := hi
  cases b with
  | true =>
    have e : r = ([], t, true) := by rw [HR.out]; rfl
    have E := Aside0.mk e
    clear HR e
    go_wp2
    go_ret
    rw [E.out]
    exact ⟨_, rfl, Kd.R_nil _ _ _ _ _, rd_bad H2.out true, K2.out.set_ _ _⟩
  | false =>
    obtain ⟨q, hq⟩ : ∃ q, q = wrap64 (Int.tdiv (wrap64 (n + 7)) 8) := ⟨_, rfl⟩
    have hr := HR.out
    clear HR
    rw [← hq] at hr
    have hq' := hq.symm
    by_cases h8 : (d.length : Int) = q
    · have hnl : n ≤ u.length := by
        have := HU.out
        have := Hn0.out
        have := Hn1.out
        have e7 : wrap64 (n + 7) = n + 7 := by unfold wrap64; omega
        rw [e7, Int.tdiv_eq_ediv_of_nonneg (by omega)] at hq
        have e8 : wrap64 ((n + 7) / 8) = (n + 7) / 8 := by unfold wrap64; omega
        rw [e8] at hq
        omega
      have hmin := eq_false (show ¬ ((u.length : Int) < n) by omega)
      have t1 : ((d.length : Int) == q) = true := by simpa using h8
      have t2 : ((d.length : Int) != q) = false := by simpa using h8
      obtain ⟨A', hcut, hA, hcap⟩ := print_drop_of (P := Try.prog) Value.bool false 24 4 .i64 Try.underlying24 hi hsz A2 c2 u n Hn0.out hnl Hc2.out
      have hCt := Kd.C_of_reads (h1 := fun _ => rfl) (hA _ (Kd.reads_of_C HC2.out))
      obtain ⟨htk, _, _⟩ := print_take_of (P := Try.prog) Value.bool false 24 4 .i64 Try.underlying24 hi hsz A2 c2 u n Hn0.out hnl Hc2.out
      have hvt := Kd.R_take HV2.out (m := n.toNat) (by have := Hn0.out; omega)
      have hxl : (u.drop n.toNat).length < 140737488355328 := by
        have := HU.out
        have := HD.out
        simp
        omega
      rw [if_neg (by simp), if_neg (by simpa using h8)] at hr
      have hvl : n.toNat = (u.take n.toNat).length := by
        have := Hn0.out
        simp
        omega
      rw [hvl] at hvt
      rw [← hvl] at hvt
      obtain ⟨x, hx⟩ : ∃ x, x = u.drop n.toNat := ⟨_, rfl⟩
      obtain ⟨y, hy⟩ : ∃ y, y = u.take n.toNat := ⟨_, rfl⟩
      rw [← hx] at hcut hCt hr hcap hxl
      rw [← hy] at htk hvt hr hvl
      rw [hvl] at hvt
      have HX := Aside0.mk hxl
      have HVT := Aside0.mk hvt
      have HCT := Aside0.mk hCt
      have HCAP := Aside0.mk hcap
      have HR := Aside0.mk hr
      have hd0 : d.length = q.toNat := by omega
      clear hxl hvt hCt hcap hr hx hy hvl hnl h8 hA hi hsz hq hd0
      go_wp2_with fail
      refine (slices_Contains_bool_bool.calls _ A' _ x true (x.any id) w2 HCT.out HCAP.out (con_f x HX.out)).mono ?_
      rintro e w3 ⟨rfl, hd⟩
      have h3 := rd_drawn H2.out hd
      have k3 : KeepBut w w3 g none := K2.out.trans (KeepBut.of_below (hd.below) g none) (.inl rfl)
      have hv3 : Kd.bool.R 4 w3 w0.heap.size (fun k => w.heap.size ≤ k) (.slice A2 y.length c2) y := Kd.R_below HVT.out hd.below
      obtain ⟨_, _, c0, c1, f0, f1, _, _⟩ := rd_cells h3
      have H3 := Aside0.mk h3
      have K3 := Aside0.mk k3
      have HV3 := Aside0.mk hv3
      clear h3 k3 hv3 hd
      obtain ⟨b3, hb3⟩ : ∃ b, b = x.any id := ⟨_, rfl⟩
      have hr := HR.out
      rw [← hb3] at hr ⊢
      clear HR hb3
      cases b3 with
      | true =>
        have E := Aside0.mk (show r = ([], t, true) by rw [hr]; rfl)
        clear hr
        go_wp2
        go_ret
        rw [E.out]
        exact ⟨_, rfl, Kd.R_nil _ _ _ _ _, rd_bad H3.out true, K3.out.set_ _ _⟩
      | false =>
        have E := Aside0.mk (show r = (y, t, false) by rw [hr]; rfl)
        clear hr
        go_wp2
        go_ret
        rw [E.out]
        exact ⟨_, rfl, bits_R HV3.out H3.out false, rd_bad H3.out false, K3.out.set_ _ _⟩
    · have t1 : ((d.length : Int) == q) = false := by simpa using h8
      have t2 : ((d.length : Int) != q) = true := by simpa using h8
      have e : r = ([], t, true) := by rw [hr]; simp [h8]
      have E := Aside0.mk e
      clear hr e h8 hi hsz hq
      go_wp2
      go_ret
      rw [E.out]
      exact ⟨_, rfl, Kd.R_nil _ _ _ _ _, rd_bad H2.out true, K2.out.set_ _ _⟩
/-- What bytes say, right or not: the first choice, the second, all. -/
def mid1 (f : Int) (l : List Int) (b : Bool) : Int × List Int × List Bool × List Int × Bool :=
  let x := GRead.rnum l b
  if f = 5 then (0, [], [x.1 == 65280], x.2.1, x.2.2 || (x.1 != 65280 && x.1 != 0))
  else if f = 6 then (0, [x.1], [], x.2.1, x.2.2)
  else (x.1, [], [], x.2.1, x.2.2)
def mid2 (f many : Int) (ws : List Int) (bs : List Bool) (l : List Int) (b : Bool) : Int × List Int × List Bool × List Int × Bool :=
  if f = 15 then (0, ws, rbits l b (wrap64 many))
  else if f = 16 then (0, (GRead.rwords l b).1, bs, (GRead.rwords l b).2)
  else if f = 23 then
    let t := GRead.rnum l b
    let n := GRead.rnum t.2.1 t.2.2
    let y := GRead.rwords n.2.1 n.2.2
    (t.1, y.1, bs, y.2.1, y.2.2 || wrap64 n.1 != (y.1.length : Int))
  else (0, ws, bs, l, b)
def rread (l : List Int) : Int × Int × Int × Int × List Int × List Bool × Bool :=
  let p := GRead.rb1 l false
  let a := GRead.rnum p.2.1 p.2.2
  let m := mid1 p.1 a.2.1 a.2.2
  let k := mid2 p.1 m.1 m.2.1 m.2.2.1 m.2.2.2.1 m.2.2.2.2
  (p.1, a.1, m.1, k.1, k.2.1, k.2.2.1, !k.2.2.2.2 && (k.2.2.2.1.length : Int) == 0)
def ask_read.f (l0 : List Int) : Option (Int × Int × Int × Int × List Int × List Bool × Bool) := if l0.length < 17592186044416 then some (rread l0) else none
theorem R_one {α : Type} {enc : α → Value} {h1 : ∀ x, (enc x).oneCell' = true} {W : World} {g e base : Nat} {x : α} (h : W.heap[g]? = some (.cells #[enc x] e (0, 0))) (hb : base ≤ g) : (Kd.scalar enc h1).R e W base (fun _ => True) (.slice (some ⟨g, 0, none⟩) 1 1) [x] :=
  ⟨fun _ _ => trivial, [enc x], ⟨rfl, .inr ⟨g, 1, #[enc x], rfl, hb, h, by simp, by decide, rfl, rfl⟩⟩, by simp [Kd.scalar], fun j p h => by
    match j with
    | 0 => simp at h; subst h; rfl
    | j + 1 => simp at h⟩
open GRead in
/-- The world between: the reader, the request so far, and the place of the answer. -/
structure Md (w W : World) (g ga : Nat) (f at_ many to_ : Int) (ws : List Int) (bs : List Bool) (l : List Int) (b : Bool) (v4 v5 : Value) : Prop where
  rd : Rd w W g l b
  res : W.heap[w.heap.size]? = some (.cells #[.int .u8 0, .int .u16 0, .int .u16 0, .int .u16 0, .slice none 0 0, .slice none 0 0] 26 (0, 0))
  ask : W.heap[ga]? = some (.cells #[.int .u8 f, .int .u16 at_, .int .u16 many, .int .u16 to_, v4, v5] 26 (0, 0))
  r4 : (Kd.int .u16).R 22 W w.heap.size (fun _ => True) v4 ws
  r5 : Kd.bool.R 4 W w.heap.size (fun _ => True) v5 bs
  ne : w.heap.size < g ∧ g < ga
open GRead in
theorem Md.keep {w W W' : World} {g ga : Nat} {f at_ many to_ : Int} {ws : List Int} {bs : List Bool} {l l' : List Int} {b b' : Bool} {v4 v5 : Value} (h : Md w W g ga f at_ many to_ ws bs l b v4 v5) (hr : Rd w W' g l' b') (hk : KeepBut W W' g none) : Md w W' g ga f at_ many to_ ws bs l' b' v4 v5 :=
  ⟨hr, hk.blk h.res (by have := h.ne; omega) (by simp), hk.blk h.ask (by have := h.ne; omega) (by simp),
    Kd.R_mono (Kd.R_keep (Kd.R_types h.r4 (rd_blk2 h.rd) (by simp [Kd.int, Kd.scalar])) hk (fun k hk => hk.2)) (fun _ _ => trivial),
    Kd.R_mono (Kd.R_keep (Kd.R_types h.r5 (rd_blk2 h.rd) (by simp [Kd.bool, Kd.scalar])) hk (fun k hk => hk.2)) (fun _ _ => trivial), h.ne⟩
open GRead in
theorem Md.bad {w W : World} {g ga : Nat} {f at_ many to_ : Int} {ws : List Int} {bs : List Bool} {l : List Int} {b : Bool} {v4 v5 : Value} (h : Md w W g ga f at_ many to_ ws bs l b v4 v5) (c : Bool) : Md w (W.setCell ⟨g, 1, none⟩ (.bool c)) g ga f at_ many to_ ws bs l c v4 v5 :=
  h.keep (rd_bad h.rd c) ((KeepBut.refl W g none).set_ _ _)
open GRead in
theorem Md.alloc {w W : World} {g ga : Nat} {f at_ many to_ : Int} {ws : List Int} {bs : List Bool} {l : List Int} {b : Bool} {v4 v5 : Value} (h : Md w W g ga f at_ many to_ ws bs l b v4 v5) (o : Obj) : Md w (W.alloc o) g ga f at_ many to_ ws bs l b v4 v5 :=
  ⟨rd_alloc h.rd o, blk_alloc h.res o, blk_alloc h.ask o, Kd.R_alloc h.r4 o, Kd.R_alloc h.r5 o, h.ne⟩
open GRead in
/-- One place of the request is written. -/
theorem Md.put {w W : World} {g ga : Nat} {f at_ many to_ : Int} {ws : List Int} {bs : List Bool} {l : List Int} {b : Bool} {v4 v5 : Value} (h : Md w W g ga f at_ many to_ ws bs l b v4 v5) (j : Nat) (u : Value) (many' to' : Int) (v4' v5' : Value) (ws' : List Int) (bs' : List Bool)
    (e : (#[Value.int .u8 f, .int .u16 at_, .int .u16 many, .int .u16 to_, v4, v5] : Array Value).setIfInBounds j u = #[.int .u8 f, .int .u16 at_, .int .u16 many', .int .u16 to', v4', v5'])
    (h4 : (Kd.int .u16).R 22 W w.heap.size (fun _ => True) v4' ws') (h5 : Kd.bool.R 4 W w.heap.size (fun _ => True) v5' bs') : Md w (W.setCell ⟨ga, j, none⟩ u) g ga f at_ many' to' ws' bs' l b v4' v5' := by
  have hn := h.ne
  have hB : Below w.heap.size w (W.setCell ⟨ga, j, none⟩ u) := (rd_below h.rd).setCell (p := ⟨ga, j, none⟩) (by simp; omega) u
  have hk : KeepBut W (W.setCell ⟨ga, j, none⟩ u) ga none := (KeepBut.refl W ga none).set_ _ _
  exact ⟨rd_step h.rd (hk.2 g (rd_lt h.rd) (by omega) (by simp)) hB, hk.blk h.res (by omega) (by simp), e ▸ blk_set h.ask j u,
    Kd.R_mono (Kd.R_keep (Kd.R_types h4 h.ask (by simp [Kd.int, Kd.scalar])) hk (fun k hk => hk.2)) (fun _ _ => trivial),
    Kd.R_mono (Kd.R_keep (Kd.R_types h5 h.ask (by simp [Kd.bool, Kd.scalar])) hk (fun k hk => hk.2)) (fun _ _ => trivial), hn⟩
theorem keep_drew {W X : World} {g : Nat} {r : Option Nat} (h : KeepBut W X g r) : KeepBut W X.drew g r := ⟨h.1, h.2⟩
theorem cell_far {W : World} {g h : Nat} (hne : g ≠ h) (i j : Nat) (u : Value) : (W.setCell ⟨h, i, none⟩ u).cell? ⟨g, j, none⟩ = W.cell? ⟨g, j, none⟩ := by
  have := Below.heap_setCell W ⟨h, i, none⟩ u g hne
  unfold World.cell?
  simp only [this]
theorem cell_far6 {W : World} {g h : Nat} (hne : g ≠ h) {j : Nat} {v : Value} (hc : W.cell? ⟨g, j, none⟩ = some v) (u0 u1 u2 u3 u4 u5 : Value) :
    ((((((W.setCell ⟨h, 0, none⟩ u0).setCell ⟨h, 1, none⟩ u1).setCell ⟨h, 2, none⟩ u2).setCell ⟨h, 3, none⟩ u3).setCell ⟨h, 4, none⟩ u4).setCell ⟨h, 5, none⟩ u5).cell? ⟨g, j, none⟩ = some v := by
  rw [cell_far hne, cell_far hne, cell_far hne, cell_far hne, cell_far hne, cell_far hne]
  exact hc
theorem cell_drewI {X : World} {a : Addr} {v : Option Value} (h : X.cell? a = v) : X.drew.cell? a = v := h
open GRead in
theorem Md.fin {w W : World} {g ga : Nat} {f at_ many to_ : Int} {ws : List Int} {bs : List Bool} {l : List Int} {b : Bool} {v4 v5 : Value} (h : Md w W g ga f at_ many to_ ws bs l b v4 v5) (V : World)
    (hV : V = ((((((W.setCell ⟨w.heap.size, 0, none⟩ (.int .u8 f)).setCell ⟨w.heap.size, 1, none⟩ (.int .u16 at_)).setCell ⟨w.heap.size, 2, none⟩ (.int .u16 many)).setCell ⟨w.heap.size, 3, none⟩ (.int .u16 to_)).setCell ⟨w.heap.size, 4, none⟩ v4).setCell ⟨w.heap.size, 5, none⟩ v5).drew) :
    V.heap[w.heap.size]? = some (.cells #[.int .u8 f, .int .u16 at_, .int .u16 many, .int .u16 to_, v4, v5] 26 (0, 0)) ∧ (Kd.int .u16).R 22 V w.heap.size (fun _ => True) v4 ws ∧ Kd.bool.R 4 V w.heap.size (fun _ => True) v5 bs ∧ Below w.heap.size w V := by
  have hk : KeepBut W V w.heap.size none := by
    rw [hV]
    exact keep_drew (((((((KeepBut.refl W w.heap.size none).set_ 0 _).set_ 1 _).set_ 2 _).set_ 3 _).set_ 4 _).set_ 5 _)
  refine ⟨?_, Kd.R_mono (Kd.R_keep (Kd.R_types h.r4 h.res (by simp [Kd.int, Kd.scalar])) hk (fun k hk => hk.2)) (fun _ _ => trivial), Kd.R_mono (Kd.R_keep (Kd.R_types h.r5 h.res (by simp [Kd.bool, Kd.scalar])) hk (fun k hk => hk.2)) (fun _ _ => trivial), ?_⟩
  · rw [hV]
    exact blk_drew (by simpa using blk_set (blk_set (blk_set (blk_set (blk_set (blk_set h.res 0 (.int .u8 f)) 1 (.int .u16 at_)) 2 (.int .u16 many)) 3 (.int .u16 to_)) 4 v4) 5 v5)
  · rw [hV]
    have hs : ∀ {X : World}, Below w.heap.size w X → ∀ (j : Nat) (u : Value), Below w.heap.size w (X.setCell ⟨w.heap.size, j, none⟩ u) := fun hb j u => hb.setCell (p := ⟨w.heap.size, j, none⟩) (Nat.le_refl _) u
    exact below_drew1 (hs (hs (hs (hs (hs (hs (rd_below h.rd) _ _) _ _) _ _) _ _) _ _) _ _)
open GRead in
theorem rnum_len (l : List Int) (bad : Bool) : (rnum l bad).2.1.length ≤ l.length := Nat.le_trans (rb1_len _ _) (rb1_len _ _)
open GRead in
theorem mid1_len (f : Int) (l : List Int) (b : Bool) : (mid1 f l b).2.2.2.1.length ≤ l.length := by
  have := rnum_len l b
  unfold mid1
  dsimp only
  split
  · exact this
  · split <;> exact this
theorem bits_or (s t : Int) : 0 ≤ Go.bits .or .u16 s t ∧ Go.bits .or .u16 s t < 65536 := by
  have h : ∀ n : Int, 0 ≤ IntKind.u16.wrap n ∧ IntKind.u16.wrap n < 65536 := fun n => by
    simp [IntKind.wrap, IntKind.bits, IntKind.signed]; omega
  exact h _
open GRead in
theorem mid1_many (f : Int) (l : List Int) (b : Bool) : 0 ≤ (mid1 f l b).1 ∧ (mid1 f l b).1 < 65536 := by
  have h : 0 ≤ (rnum l b).1 ∧ (rnum l b).1 < 65536 := by
    unfold rnum
    exact bits_or _ _
  unfold mid1
  dsimp only
  split
  · exact ⟨Int.le_refl 0, by show (0 : Int) < 65536; decide⟩
  · split
    · exact ⟨Int.le_refl 0, by show (0 : Int) < 65536; decide⟩
    · exact h
open GRead in
set_option maxHeartbeats 1600000 in
set_option maxRecDepth 100000 in
theorem ask_read.calls (A0 : Option Addr) (c0 : Nat) (l0 : List Int) (r1 : Int) (r2 : Int) (r3 : Int) (r4 : Int) (r5 : List Int) (r6 : List Bool) (r7 : Bool) (w : World) (hr0 : Kd.C (Kd.int .u8) w A0 l0.length l0) (hc0 : l0.length ≤ c0) (h : ask_read.f l0 = some (r1, r2, r3, r4, r5, r6, r7)) :
    Calls Try.prog 38 #[.slice A0 l0.length c0] w fun e w' => ∃ v4_ v5_ : Value, e = .returned (.tuple #[.agg #[.int .u8 r1, .int .u16 r2, .int .u16 r3, .int .u16 r4, v4_, v5_], .bool r7]) ∧ Kd.R (Kd.int .u16) 22 w' w.heap.size (fun _ => True) v4_ r5 ∧ Kd.R Kd.bool 4 w' w.heap.size (fun _ => True) v5_ r6 ∧ Below w.heap.size w w' := by
  unfold ask_read.f at h
  split at h
  case isFalse => cases h
  rename_i hl
  have HL := Aside0.mk hl
  have H := Aside0.mk (Option.some.inj h)
  have hR := rd_new (w := w.alloc (.cells #[.int .u8 0, .int .u16 0, .int .u16 0, .int .u16 0, .slice none 0 0, .slice none 0 0] 26 (0, 0))) hc0 hr0 (below_alloc (Below.refl _ _) _)
  have hres := blk_alloc (blk_new w (.cells #[.int .u8 0, .int .u16 0, .int .u16 0, .int .u16 0, .slice none 0 0, .slice none 0 0] 26 (0, 0))) (.cells #[.slice A0 l0.length c0, .bool false] 71 (0, 0))
  have HR := Aside0.mk hR
  have HRES := Aside0.mk hres
  clear h hl hr0 hc0 hR hres
  go_enter Try.func38, Try.ntmps38
  go_wp2_with fail
  obtain ⟨g, hg⟩ : ∃ g, g = w.heap.size + 1 := ⟨_, rfl⟩
  have h0 := HR.out
  have hres := HRES.out
  simp only [World.size_alloc] at h0
  clear HR HRES
  rw [← hg] at h0 ⊢
  obtain ⟨w0, hw0⟩ : ∃ w0, w0 = (w.alloc (.cells #[.int .u8 0, .int .u16 0, .int .u16 0, .int .u16 0, .slice none 0 0, .slice none 0 0] 26 (0, 0))).alloc (.cells #[.slice A0 l0.length c0, .bool false] 71 (0, 0)) := ⟨_, rfl⟩
  rw [← hw0] at h0 hres ⊢
  clear hw0
  refine (byte1_any w g l0 false w0 h0).mono ?_
  rintro e w1 ⟨rfl, h1, k1⟩
  replace hres := k1.blk hres (by omega) (by simp)
  have H1 := Aside0.mk h1
  have HRES := Aside0.mk hres
  have HG := Aside0.mk hg
  clear h0 h1 k1 hres hg
  go_wp2_with fail
  refine (num_any w g _ _ w1 H1.out).mono ?_
  rintro e w2 ⟨rfl, h2, k2⟩
  have hres := k2.blk HRES.out (by have := HG.out; omega) (by simp)
  have hrr := H.out
  unfold rread at hrr
  obtain ⟨p, hp⟩ : ∃ p, p = rb1 l0 false := ⟨_, rfl⟩
  rw [← hp] at hrr h2 ⊢
  obtain ⟨a, ha⟩ : ∃ a, a = rnum p.2.1 p.2.2 := ⟨_, rfl⟩
  dsimp only at hrr
  rw [← ha] at hrr h2 ⊢
  obtain ⟨f, la, ba⟩ := p
  obtain ⟨at_, l2, b2⟩ := a
  have hl2 : l2.length ≤ l0.length := by
    have e1 := rb1_len l0 false
    rw [← hp] at e1
    have e2 := rnum_len la ba
    rw [← ha] at e2
    exact Nat.le_trans e2 e1
  dsimp only at hrr
  have HL2 := Aside0.mk (Nat.lt_of_le_of_lt hl2 HL.out)
  have HRR := Aside0.mk hrr
  have hmd : Md w (w2.alloc (.cells #[.int .u8 f, .int .u16 at_, .int .u16 0, .int .u16 0, .slice none 0 0, .slice none 0 0] 26 (0, 0))) g w2.heap.size f at_ 0 0 [] [] l2 b2 (.slice none 0 0) (.slice none 0 0) :=
    ⟨rd_alloc h2 _, blk_alloc hres _, blk_new _ _, Kd.R_nil _ _ _ _ _, Kd.R_nil _ _ _ _ _, by have := HG.out; omega, rd_lt h2⟩
  have HMD := Aside0.mk hmd
  clear hl2 hp ha H1 h2 k2 hrr hres H hmd HRES
  have hf0 := (blk_cell HMD.out.ask 0).trans rfl
  go_upto_block 0 with fail
  obtain ⟨ga, hga⟩ : ∃ ga, ga = w2.heap.size := ⟨_, rfl⟩
  have hmd := HMD.out
  clear HMD hf0
  rw [← hga] at hmd ⊢
  obtain ⟨W, hW⟩ : ∃ W, W = w2.alloc (.cells #[.int .u8 f, .int .u16 at_, .int .u16 0, .int .u16 0, .slice none 0 0, .slice none 0 0] 26 (0, 0)) := ⟨_, rfl⟩
  rw [← hW] at hmd ⊢
  have HMD := Aside0.mk hmd
  clear hW hga hmd
  obtain ⟨m, hm⟩ : ∃ m, m = mid1 f l2 b2 := ⟨_, rfl⟩
  have hrr := HRR.out
  clear HRR
  rw [← hm] at hrr
  have HRR := Aside0.mk hrr
  have HM := Aside0.mk hm
  clear hrr hm
  go_cut [] (fun wx => ∃ v4 v5 : Value, Md w wx g ga f at_ m.1 0 m.2.1 m.2.2.1 m.2.2.2.1 m.2.2.2.2 v4 v5)
  case first =>
    by_cases f5 : f = 5
    · have H5 := Aside0.mk f5
      have t1 : (f == 5) = true := by simp [f5]
      clear f5
      go_wp2_with fail
      refine (num_any w g l2 b2 W HMD.out.rd).mono ?_
      rintro e w3 ⟨rfl, h3, k3⟩
      have hmd := HMD.out.keep h3 k3
      obtain ⟨x, hx⟩ : ∃ x, x = rnum l2 b2 := ⟨_, rfl⟩
      rw [← hx] at hmd ⊢
      have hm := HM.out
      unfold mid1 at hm
      rw [← hx, if_pos H5.out] at hm
      obtain ⟨x, l3, b3⟩ := x
      dsimp only at hm hmd ⊢
      have HM3 := Aside0.mk hm
      have HMD3 := Aside0.mk hmd
      clear hm hmd hx h3 k3
      have hA := HMD3.out.alloc (.cells #[.bool (x == 65280)] 4 (0, 0))
      have hP := hA.put 5 (.slice (some ⟨w3.heap.size, 0, none⟩) 1 1) 0 0 _ _ [] [x == 65280] rfl hA.r4 (R_one (blk_new _ _) (rd_below HMD3.out.rd).size)
      have f5 := blk_frozen hA.ask 5
      have a5 := (blk_cell hA.ask 5).trans rfl
      obtain ⟨_, _, c0, c1, f0, f1, _, _⟩ := rd_cells hP.rd
      have HP := Aside0.mk hP
      clear hA hP
      cases b3 with
      | true =>
        go_wp2_with fail
        go_meet
        exact ⟨_, _, by rw [HM3.out]; exact HP.out.bad _⟩
      | false =>
        by_cases x1 : x = 65280
        · have X1 := Aside0.mk x1
          have x2 : (x != 65280) = false := by simp [x1]
          have x3 : (x == 65280) = true := by simp [x1]
          have hm3 : m = (0, [], [true], l3, false) := by rw [HM3.out]; simp [x1]
          have HM3 := Aside0.mk hm3
          clear x1 hm3
          rw [x3] at HP c0 c1 f0 f1 f5 a5
          go_wp2_with fail
          go_meet
          exact ⟨_, _, by rw [HM3.out]; exact HP.out.bad _⟩
        · have X1 := Aside0.mk x1
          have x2 : (x != 65280) = true := by simpa using x1
          have x3 : (x == 65280) = false := by simpa using x1
          have hm3 : m = (0, [], [false], l3, x != 0) := by rw [HM3.out]; simp [x1]
          have HM3 := Aside0.mk hm3
          clear x1 hm3
          rw [x3] at HP c0 c1 f0 f1 f5 a5
          go_wp2_with fail
          go_meet
          exact ⟨_, _, by rw [HM3.out]; exact HP.out.bad _⟩
    · by_cases f6 : f = 6
      · have H6 := Aside0.mk f6
        have t1 : (f == 5) = false := by simpa using f5
        have t2 : (f == 6) = true := by simp [f6]
        clear f5 f6
        go_wp2_with fail
        refine (num_any w g l2 b2 W HMD.out.rd).mono ?_
        rintro e w3 ⟨rfl, h3, k3⟩
        have hmd := HMD.out.keep h3 k3
        obtain ⟨x, hx⟩ : ∃ x, x = rnum l2 b2 := ⟨_, rfl⟩
        rw [← hx] at hmd ⊢
        have hm := HM.out
        unfold mid1 at hm
        rw [← hx, if_neg (by rw [H6.out]; decide), if_pos H6.out] at hm
        obtain ⟨x, l3, b3⟩ := x
        dsimp only at hm hmd ⊢
        have HM3 := Aside0.mk hm
        have hA := hmd.alloc (.cells #[.int .u16 x] 22 (0, 0))
        have hP := hA.put 4 (.slice (some ⟨w3.heap.size, 0, none⟩) 1 1) 0 0 _ _ [x] [] rfl (R_one (blk_new _ _) (rd_below hmd.rd).size) hA.r5
        have f5 := blk_frozen hA.ask 4
        have a5 := (blk_cell hA.ask 4).trans rfl
        have HP := Aside0.mk hP
        clear hA hP hm hmd hx h3 k3
        go_wp2_with fail
        go_meet
        exact ⟨_, _, by rw [HM3.out]; exact HP.out⟩
      · have H5 := Aside0.mk f5
        have H6 := Aside0.mk f6
        have t1 : (f == 5) = false := by simpa using f5
        have t2 : (f == 6) = false := by simpa using f6
        clear f5 f6
        go_wp2_with fail
        refine (num_any w g l2 b2 W HMD.out.rd).mono ?_
        rintro e w3 ⟨rfl, h3, k3⟩
        have hmd := HMD.out.keep h3 k3
        obtain ⟨x, hx⟩ : ∃ x, x = rnum l2 b2 := ⟨_, rfl⟩
        rw [← hx] at hmd ⊢
        have hm := HM.out
        unfold mid1 at hm
        rw [← hx, if_neg H5.out, if_neg H6.out] at hm
        obtain ⟨x, l3, b3⟩ := x
        dsimp only at hm hmd ⊢
        have HM3 := Aside0.mk hm
        have hP := hmd.put 2 (.int .u16 x) x 0 _ _ [] [] rfl hmd.r4 hmd.r5
        have f5 := blk_frozen hmd.ask 2
        have a5 := (blk_cell hmd.ask 2).trans rfl
        have HP := Aside0.mk hP
        clear hP hm hmd hx h3 k3
        go_wp2_with fail
        go_meet
        exact ⟨_, _, by rw [HM3.out]; exact HP.out⟩
  case rest =>
    obtain ⟨v4, v5, hmd⟩ := hcut
    have hml := mid1_len f l2 b2
    have hmr := mid1_many f l2 b2
    rw [← HM.out] at hml hmr
    obtain ⟨many, ws, bs, l3, b3⟩ := m
    have HM0 := Aside0.mk hmr
    have HL3 := Aside0.mk (Nat.lt_of_le_of_lt hml HL2.out)
    have hrr := HRR.out
    clear HRR HM hml hmr HMD
    dsimp only at hrr hmd
    obtain ⟨y, hy⟩ : ∃ y, y = mid2 f many ws bs l3 b3 := ⟨_, rfl⟩
    rw [← hy] at hrr
    have HRR := Aside0.mk hrr
    have HY := Aside0.mk hy
    have HMD := Aside0.mk hmd
    have hf0 := (blk_cell hmd.ask 0).trans rfl
    clear hrr hy hmd
    go_upto_block 1 with fail
    clear hf0
    go_cut [] (fun wx => ∃ v4 v5 : Value, Md w wx g ga f at_ many y.1 y.2.1 y.2.2.1 y.2.2.2.1 y.2.2.2.2 v4 v5)
    case first =>
      by_cases f5 : f = 15
      · have t1 : (f == 15) = true := by simp [f5]
        have hy := HY.out
        unfold mid2 at hy
        rw [if_pos f5] at hy
        have hwm : wrap64 many = many := by
          have := HM0.out
          unfold wrap64
          omega
        rw [hwm] at hy
        have HYY := Aside0.mk hy
        have HF := Aside0.mk f5
        have cm := (blk_cell HMD.out.ask 2).trans rfl
        clear f5 hy
        go_wp2_with fail
        refine (bits_any w g l3 b3 wc HMD.out.rd HL3.out many HM0.out.1 HM0.out.2).mono ?_
        rintro e w3 ⟨v, rfl, hv, h3, k3⟩
        obtain ⟨z, hz⟩ : ∃ z, z = rbits l3 b3 many := ⟨_, rfl⟩
        have hy := HYY.out
        clear HYY
        rw [← hz] at hv h3 hy
        have HYY := Aside0.mk hy
        clear hz hy
        obtain ⟨Av, cv, rfl⟩ := Kd.R_slice hv
        have hmd := HMD.out.keep h3 k3
        have hP := hmd.put 5 (.slice Av z.1.length cv) many 0 _ _ ws _ rfl hmd.r4 (Kd.R_mono hv (fun _ _ => trivial))
        have f5 := blk_frozen hmd.ask 5
        have a5 := (blk_cell hmd.ask 5).trans rfl
        have HP := Aside0.mk hP
        clear hmd hP hv h3 k3 cm
        go_wp2_with fail
        go_meet
        exact ⟨_, _, by rw [HYY.out]; exact HP.out⟩
      · by_cases f6 : f = 16
        · have t1 : (f == 15) = false := by simpa using f5
          have t2 : (f == 16) = true := by simp [f6]
          have hy := HY.out
          unfold mid2 at hy
          rw [if_neg f5, if_pos f6] at hy
          have HYY := Aside0.mk hy
          clear f5 f6 hy
          go_wp2_with fail
          refine (words_any w g l3 b3 wc HMD.out.rd (by have := HL3.out; omega)).mono ?_
          rintro e w3 ⟨v, rfl, hv, h3, k3⟩
          obtain ⟨z, hz⟩ : ∃ z, z = rwords l3 b3 := ⟨_, rfl⟩
          have hy := HYY.out
          clear HYY
          rw [← hz] at hv h3 hy
          have HYY := Aside0.mk hy
          clear hz hy
          obtain ⟨Av, cv, rfl⟩ := Kd.R_slice hv
          have hmd := HMD.out.keep h3 k3
          have hP := hmd.put 4 (.slice Av z.1.length cv) many 0 _ _ _ bs rfl (Kd.R_mono hv (fun _ _ => trivial)) hmd.r5
          have f5 := blk_frozen hmd.ask 4
          have a5 := (blk_cell hmd.ask 4).trans rfl
          have HP := Aside0.mk hP
          clear hmd hP hv h3 k3
          go_wp2_with fail
          go_meet
          exact ⟨_, _, by rw [HYY.out]; exact HP.out⟩
        · by_cases f7 : f = 23
          · have t1 : (f == 15) = false := by simpa using f5
            have t2 : (f == 16) = false := by simpa using f6
            have t3 : (f == 23) = true := by simp [f7]
            have hy := HY.out
            unfold mid2 at hy
            rw [if_neg f5, if_neg f6, if_pos f7] at hy
            dsimp only at hy
            have HYY := Aside0.mk hy
            clear f5 f6 f7 hy
            go_wp2_with fail
            refine (num_any w g l3 b3 wc HMD.out.rd).mono ?_
            rintro e w3 ⟨rfl, h3, k3⟩
            have hmd := HMD.out.keep h3 k3
            have hln := rnum_len l3 b3
            obtain ⟨t, ht⟩ : ∃ t, t = rnum l3 b3 := ⟨_, rfl⟩
            have hy := HYY.out
            clear HYY
            rw [← ht] at hmd hy hln ⊢
            obtain ⟨to_, l4, b4⟩ := t
            dsimp only at hmd hy hln ⊢
            have hP := hmd.put 3 (.int .u16 to_) many to_ _ _ _ _ rfl hmd.r4 hmd.r5
            have f5 := blk_frozen hmd.ask 3
            have a5 := (blk_cell hmd.ask 3).trans rfl
            have HP := Aside0.mk hP
            have HYY := Aside0.mk hy
            have HL4 := Aside0.mk (Nat.lt_of_le_of_lt hln HL3.out)
            clear ht hmd hy hln hP h3 k3
            go_wp2_with fail
            clear f5 a5
            refine (num_any w g l4 b4 _ HP.out.rd).mono ?_
            rintro e w4 ⟨rfl, h3, k3⟩
            have hmd := HP.out.keep h3 k3
            have hln := rnum_len l4 b4
            obtain ⟨t, ht⟩ : ∃ t, t = rnum l4 b4 := ⟨_, rfl⟩
            have hy := HYY.out
            clear HYY HP
            rw [← ht] at hmd hy hln ⊢
            obtain ⟨n, l5, b5⟩ := t
            dsimp only at hmd hy hln ⊢
            have HP := Aside0.mk hmd
            have HYY := Aside0.mk hy
            have HL5 := Aside0.mk (Nat.lt_of_le_of_lt hln HL4.out)
            clear ht hmd hy hln h3 k3
            go_wp2_with fail
            refine (words_any w g l5 b5 _ HP.out.rd (by have := HL5.out; omega)).mono ?_
            rintro e w5 ⟨v, rfl, hv, h3, k3⟩
            obtain ⟨z, hz⟩ : ∃ z, z = rwords l5 b5 := ⟨_, rfl⟩
            have hy := HYY.out
            clear HYY
            rw [← hz] at hv h3 hy
            obtain ⟨wz, l6, b6⟩ := z
            dsimp only at hv h3 hy
            obtain ⟨Av, cv, rfl⟩ := Kd.R_slice hv
            have hmd := HP.out.keep h3 k3
            have hP := hmd.put 4 (.slice Av wz.length cv) many to_ _ _ _ bs rfl (Kd.R_mono hv (fun _ _ => trivial)) hmd.r5
            have f5 := blk_frozen hmd.ask 4
            have a5 := (blk_cell hmd.ask 4).trans rfl
            have a6 := (blk_cell hP.ask 4).trans rfl
            obtain ⟨_, _, c0, c1, f0, f1, _, _⟩ := rd_cells hP.rd
            have HP := Aside0.mk hP
            have HYY := Aside0.mk hy
            clear hz hmd hy hP hv h3 k3
            cases b6 with
            | true =>
              go_wp2_with fail
              go_meet
              exact ⟨_, _, by rw [HYY.out]; exact HP.out.bad _⟩
            | false =>
              cases hbb : (wrap64 n != (wz.length : Int)) with
              | true =>
                have hbb' : (wrap64 n == (wz.length : Int)) = false := by simpa [bne] using hbb
                go_wp2_with fail
                go_meet
                exact ⟨_, _, by rw [HYY.out, hbb]; exact HP.out.bad _⟩
              | false =>
                have hbb' : (wrap64 n == (wz.length : Int)) = true := by simpa [bne] using hbb
                go_wp2_with fail
                go_meet
                exact ⟨_, _, by rw [HYY.out, hbb]; exact HP.out.bad _⟩
          · have t1 : (f == 15) = false := by simpa using f5
            have t2 : (f == 16) = false := by simpa using f6
            have t3 : (f == 23) = false := by simpa using f7
            have hy := HY.out
            unfold mid2 at hy
            rw [if_neg f5, if_neg f6, if_neg f7] at hy
            have HYY := Aside0.mk hy
            clear f5 f6 f7 hy
            go_wp2_with fail
            go_meet
            exact ⟨_, _, by rw [HYY.out]; exact HMD.out⟩
    case rest =>
      obtain ⟨v4, v5, hmd⟩ := hcut
      obtain ⟨to_, ws', bs', l4, b4⟩ := y
      have hrr := HRR.out
      clear HRR HMD HY
      dsimp only at hrr hmd
      simp only [Prod.mk.injEq] at hrr
      obtain ⟨rfl, rfl, rfl, rfl, rfl, rfl, e7⟩ := hrr
      obtain ⟨A4, c4, rfl⟩ := Kd.R_slice hmd.r4
      obtain ⟨A5, c5, rfl⟩ := Kd.R_slice hmd.r5
      have a0 : wc.cell? ⟨ga, 0, none⟩ = some (.int .u8 f) := (blk_cell hmd.ask 0).trans rfl
      have a1 : wc.cell? ⟨ga, 1, none⟩ = some (.int .u16 at_) := (blk_cell hmd.ask 1).trans rfl
      have a2 : wc.cell? ⟨ga, 2, none⟩ = some (.int .u16 many) := (blk_cell hmd.ask 2).trans rfl
      have a3 : wc.cell? ⟨ga, 3, none⟩ = some (.int .u16 to_) := (blk_cell hmd.ask 3).trans rfl
      have a4 : wc.cell? ⟨ga, 4, none⟩ = some (.slice A4 ws'.length c4) := (blk_cell hmd.ask 4).trans rfl
      have a5 : wc.cell? ⟨ga, 5, none⟩ = some (.slice A5 bs'.length c5) := (blk_cell hmd.ask 5).trans rfl
      obtain ⟨Ar, cr, q0, q1, g0, g1, _, _⟩ := rd_cells hmd.rd
      have HMD := Aside0.mk hmd
      have E7 := Aside0.mk e7
      clear hmd e7
      have z0 := (blk_cell HMD.out.res 0).trans rfl
      have z1 := (blk_cell HMD.out.res 1).trans rfl
      have z2 := (blk_cell HMD.out.res 2).trans rfl
      have z3 := (blk_cell HMD.out.res 3).trans rfl
      have z4 := (blk_cell HMD.out.res 4).trans rfl
      have z5 := (blk_cell HMD.out.res 5).trans rfl
      have y0 := blk_frozen HMD.out.res
      have ngr : g ≠ w.heap.size := by have := HMD.out.ne; omega
      have nga : ga ≠ w.heap.size := by have := HMD.out.ne; omega
      cases b4 with
      | true =>
        go_upto_region 21 with fail
        -- REGION-T
        refine start_ (n := 16) (S := fun w' => w'.cell? ⟨ga, 0, none⟩ = some (.int .u8 f) ∧ w'.cell? ⟨ga, 1, none⟩ = some (.int .u16 at_) ∧ w'.cell? ⟨ga, 2, none⟩ = some (.int .u16 many) ∧ w'.cell? ⟨ga, 3, none⟩ = some (.int .u16 to_) ∧ w'.cell? ⟨ga, 4, none⟩ = some (.slice A4 ws'.length c4) ∧ w'.cell? ⟨ga, 5, none⟩ = some (.slice A5 bs'.length c5) ∧ w'.cell? ⟨g, 1, none⟩ = some (.bool true) ∧ w'.cell? ⟨g, 0, none⟩ = some (.slice Ar l4.length cr)) (ds := [14, 15]) #[false, false, false, false, false, false, false, false, false, false, false, false, false, false, false, false] (by kernel_rfl) rfl rfl ⟨a0, a1, a2, a3, a4, a5, q1, q0⟩ (fun hHeld => ?_)
        refine take_ (i := 0) (N := some 90) (v := ?_) (a' := ?_) #[true, false, false, false, false, false, false, false, false, false, false, false, false, false, false, false] rfl rfl (by kernel_rfl) (fun _ _ _ h => h) (Or.inl ⟨by rfl, ?_⟩) hHeld ?_ ?_
        rotate_left
        · rintro w' ⟨s0, s1, s2, s3, s4, s5, s6, s7⟩
          go_simp
          with_reducible rfl
        rotate_left
        · simp only [Act.put, List.setIfInBounds_toArray, List.set_cons_zero, List.set_cons_succ]
          rfl
        refine pure_ (i := 1) (N := some 91) (v := ?_) (a' := ?_) #[true, true, false, false, false, false, false, false, false, false, false, false, false, false, false, false] rfl rfl (by kernel_rfl) (fun _ _ _ h => h) (Or.inl ⟨by rfl, ?_⟩) ?_ ?_
        rotate_left
        · intro w'
          go_simp
          with_reducible rfl
        rotate_left
        · simp only [Act.put, List.setIfInBounds_toArray, List.set_cons_zero, List.set_cons_succ]
          rfl
        refine pure_ (i := 2) (N := some 92) (v := ?_) (a' := ?_) #[true, true, true, false, false, false, false, false, false, false, false, false, false, false, false, false] rfl rfl (by kernel_rfl) (fun _ _ _ h => h) (Or.inl ⟨by rfl, ?_⟩) ?_ ?_
        rotate_left
        · intro w'
          go_simp
          with_reducible rfl
        rotate_left
        · simp only [Act.put, List.setIfInBounds_toArray, List.set_cons_zero, List.set_cons_succ]
          rfl
        refine pure_ (i := 3) (N := some 93) (v := ?_) (a' := ?_) #[true, true, true, true, false, false, false, false, false, false, false, false, false, false, false, false] rfl rfl (by kernel_rfl) (fun _ _ _ h => h) (Or.inl ⟨by rfl, ?_⟩) ?_ ?_
        rotate_left
        · intro w'
          go_simp
          with_reducible rfl
        rotate_left
        · simp only [Act.put, List.setIfInBounds_toArray, List.set_cons_zero, List.set_cons_succ]
          rfl
        refine take_ (i := 4) (N := some 94) (v := ?_) (a' := ?_) #[true, true, true, true, true, false, false, false, false, false, false, false, false, false, false, false] rfl rfl (by kernel_rfl) (fun _ _ _ h => h) (Or.inl ⟨by rfl, ?_⟩) hHeld ?_ ?_
        rotate_left
        · rintro w' ⟨s0, s1, s2, s3, s4, s5, s6, s7⟩
          go_simp
          with_reducible rfl
        rotate_left
        · simp only [Act.put, List.setIfInBounds_toArray, List.set_cons_zero, List.set_cons_succ]
          rfl
        refine pure_ (i := 5) (N := some 95) (v := ?_) (a' := ?_) #[true, true, true, true, true, true, false, false, false, false, false, false, false, false, false, false] rfl rfl (by kernel_rfl) (fun _ _ _ h => h) (Or.inl ⟨by rfl, ?_⟩) ?_ ?_
        rotate_left
        · intro w'
          go_simp
          with_reducible rfl
        rotate_left
        · simp only [Act.put, List.setIfInBounds_toArray, List.set_cons_zero, List.set_cons_succ]
          rfl
        refine pure_ (i := 6) (N := some 96) (v := ?_) (a' := ?_) #[true, true, true, true, true, true, true, false, false, false, false, false, false, false, false, false] rfl rfl (by kernel_rfl) (fun _ _ _ h => h) (Or.inl ⟨by rfl, ?_⟩) ?_ ?_
        rotate_left
        · intro w'
          go_simp
          with_reducible rfl
        rotate_left
        · simp only [Act.put, List.setIfInBounds_toArray, List.set_cons_zero, List.set_cons_succ]
          rfl
        refine pure_ (i := 7) (N := some 97) (v := undef) (a' := ?_) #[true, true, true, true, true, true, true, true, false, false, false, false, false, false, false, false] rfl rfl (by kernel_rfl) (fun _ _ _ h => h) (Or.inr ⟨by rfl, rfl⟩) ?ha7 ?hh7
        case ha7 => (simp only [Act.put, List.setIfInBounds_toArray, List.set_cons_zero, List.set_cons_succ]; rfl)
        refine pure_ (i := 8) (N := some 98) (v := undef) (a' := ?_) #[true, true, true, true, true, true, true, true, true, false, false, false, false, false, false, false] rfl rfl (by kernel_rfl) (fun _ _ _ h => h) (Or.inr ⟨by rfl, rfl⟩) ?ha8 ?hh8
        case ha8 => (simp only [Act.put, List.setIfInBounds_toArray, List.set_cons_zero, List.set_cons_succ]; rfl)
        refine pure_ (i := 9) (N := some 99) (v := undef) (a' := ?_) #[true, true, true, true, true, true, true, true, true, true, false, false, false, false, false, false] rfl rfl (by kernel_rfl) (fun _ _ _ h => h) (Or.inr ⟨by rfl, rfl⟩) ?ha9 ?hh9
        case ha9 => (simp only [Act.put, List.setIfInBounds_toArray, List.set_cons_zero, List.set_cons_succ]; rfl)
        refine pure_ (i := 10) (N := some 100) (v := undef) (a' := ?_) #[true, true, true, true, true, true, true, true, true, true, true, false, false, false, false, false] rfl rfl (by kernel_rfl) (fun _ _ _ h => h) (Or.inr ⟨by rfl, rfl⟩) ?ha10 ?hh10
        case ha10 => (simp only [Act.put, List.setIfInBounds_toArray, List.set_cons_zero, List.set_cons_succ]; rfl)
        refine pure_ (i := 11) (N := some 101) (v := undef) (a' := ?_) #[true, true, true, true, true, true, true, true, true, true, true, true, false, false, false, false] rfl rfl (by kernel_rfl) (fun _ _ _ h => h) (Or.inr ⟨by rfl, rfl⟩) ?ha11 ?hh11
        case ha11 => (simp only [Act.put, List.setIfInBounds_toArray, List.set_cons_zero, List.set_cons_succ]; rfl)
        refine pure_ (i := 12) (N := some 102) (v := undef) (a' := ?_) #[true, true, true, true, true, true, true, true, true, true, true, true, true, false, false, false] rfl rfl (by kernel_rfl) (fun _ _ _ h => h) (Or.inr ⟨by rfl, rfl⟩) ?ha12 ?hh12
        case ha12 => (simp only [Act.put, List.setIfInBounds_toArray, List.set_cons_zero, List.set_cons_succ]; rfl)
        refine pure_ (i := 13) (N := some 103) (v := ?_) (a' := ?_) #[true, true, true, true, true, true, true, true, true, true, true, true, true, true, false, false] rfl rfl (by kernel_rfl) (fun _ _ _ h => h) (Or.inl ⟨by rfl, ?_⟩) ?_ ?_
        rotate_left
        · intro w'
          go_simp
          with_reducible rfl
        rotate_left
        · simp only [Act.put, List.setIfInBounds_toArray, List.set_cons_zero, List.set_cons_succ]
          rfl
        refine last_ (i := 14) (N := none) #[true, true, true, true, true, true, true, true, true, true, true, true, true, true, true, false] rfl rfl (by kernel_rfl) (by decide) (fun K hK => ?_)
        refine skip_ (w1 := ?_) (by rfl) rfl ?_ ?_
        rotate_left
        · go_simp
          rfl
        refine hK.out _ _ ?_
        clear hK K
        refine pure_ (i := 15) (N := some 3) (v := ?_) (a' := ?_) #[true, true, true, true, true, true, true, true, true, true, true, true, true, true, true, true] rfl rfl (by kernel_rfl) (fun _ _ _ h => h) (Or.inl ⟨by rfl, ?_⟩) ?_ ?_
        rotate_left
        · intro w'
          go_simp
          with_reducible rfl
        rotate_left
        · simp only [Act.put, List.setIfInBounds_toArray, List.set_cons_zero, List.set_cons_succ]
          rfl
        refine done_ (by kernel_rfl) ?_
        -- END-T
        obtain ⟨V, hV⟩ : ∃ V, V = ((((((wc.setCell ⟨w.heap.size, 0, none⟩ (.int .u8 f)).setCell ⟨w.heap.size, 1, none⟩ (.int .u16 at_)).setCell ⟨w.heap.size, 2, none⟩ (.int .u16 many)).setCell ⟨w.heap.size, 3, none⟩ (.int .u16 to_)).setCell ⟨w.heap.size, 4, none⟩ (.slice A4 ws'.length c4)).setCell ⟨w.heap.size, 5, none⟩ (.slice A5 bs'.length c5)).drew := ⟨_, rfl⟩
        obtain ⟨hres, hr4, hr5, hB⟩ := HMD.out.fin V hV
        rw [← hV]
        have v0 := (blk_cell hres 0).trans rfl
        have v1 := (blk_cell hres 1).trans rfl
        have v2 := (blk_cell hres 2).trans rfl
        have v3 := (blk_cell hres 3).trans rfl
        have v4 := (blk_cell hres 4).trans rfl
        have v5 := (blk_cell hres 5).trans rfl
        have HRES := Aside0.mk hres
        have HR4 := Aside0.mk hr4
        have HR5 := Aside0.mk hr5
        have HBB := Aside0.mk hB
        clear hV hHeld hres hr4 hr5 hB HMD a0 a1 a2 a3 a4 a5 q0 q1 g0 g1 z0 z1 z2 z3 z4 z5 y0 ngr nga
        go_wp2
        refine bodyPost_ret (results_ct rfl _ _ w.heap.size 26 _ (0, 0) _ rfl HRES.out Try.underlying26 rfl (by kernel_rfl)) rfl ?_
        exact ⟨_, _, by rw [← E7.out]; rfl, HR4.out, HR5.out, HBB.out⟩
      | false =>
        go_upto_region 21 with fail
        -- REGION-F
        refine start_ (n := 16) (S := fun w' => w'.cell? ⟨ga, 0, none⟩ = some (.int .u8 f) ∧ w'.cell? ⟨ga, 1, none⟩ = some (.int .u16 at_) ∧ w'.cell? ⟨ga, 2, none⟩ = some (.int .u16 many) ∧ w'.cell? ⟨ga, 3, none⟩ = some (.int .u16 to_) ∧ w'.cell? ⟨ga, 4, none⟩ = some (.slice A4 ws'.length c4) ∧ w'.cell? ⟨ga, 5, none⟩ = some (.slice A5 bs'.length c5) ∧ w'.cell? ⟨g, 1, none⟩ = some (.bool false) ∧ w'.cell? ⟨g, 0, none⟩ = some (.slice Ar l4.length cr)) (ds := [15]) #[false, false, false, false, false, false, false, false, false, false, false, false, false, false, false, false] (by kernel_rfl) rfl rfl ⟨a0, a1, a2, a3, a4, a5, q1, q0⟩ (fun hHeld => ?_)
        refine take_ (i := 0) (N := some 90) (v := ?_) (a' := ?_) #[true, false, false, false, false, false, false, false, false, false, false, false, false, false, false, false] rfl rfl (by kernel_rfl) (fun _ _ _ h => h) (Or.inl ⟨by rfl, ?_⟩) hHeld ?_ ?_
        rotate_left
        · rintro w' ⟨s0, s1, s2, s3, s4, s5, s6, s7⟩
          go_simp
          with_reducible rfl
        rotate_left
        · simp only [Act.put, List.setIfInBounds_toArray, List.set_cons_zero, List.set_cons_succ]
          rfl
        refine pure_ (i := 1) (N := some 91) (v := ?_) (a' := ?_) #[true, true, false, false, false, false, false, false, false, false, false, false, false, false, false, false] rfl rfl (by kernel_rfl) (fun _ _ _ h => h) (Or.inl ⟨by rfl, ?_⟩) ?_ ?_
        rotate_left
        · intro w'
          go_simp
          with_reducible rfl
        rotate_left
        · simp only [Act.put, List.setIfInBounds_toArray, List.set_cons_zero, List.set_cons_succ]
          rfl
        refine pure_ (i := 2) (N := some 92) (v := ?_) (a' := ?_) #[true, true, true, false, false, false, false, false, false, false, false, false, false, false, false, false] rfl rfl (by kernel_rfl) (fun _ _ _ h => h) (Or.inl ⟨by rfl, ?_⟩) ?_ ?_
        rotate_left
        · intro w'
          go_simp
          with_reducible rfl
        rotate_left
        · simp only [Act.put, List.setIfInBounds_toArray, List.set_cons_zero, List.set_cons_succ]
          rfl
        refine pure_ (i := 3) (N := some 93) (v := ?_) (a' := ?_) #[true, true, true, true, false, false, false, false, false, false, false, false, false, false, false, false] rfl rfl (by kernel_rfl) (fun _ _ _ h => h) (Or.inl ⟨by rfl, ?_⟩) ?_ ?_
        rotate_left
        · intro w'
          go_simp
          with_reducible rfl
        rotate_left
        · simp only [Act.put, List.setIfInBounds_toArray, List.set_cons_zero, List.set_cons_succ]
          rfl
        refine take_ (i := 4) (N := some 94) (v := ?_) (a' := ?_) #[true, true, true, true, true, false, false, false, false, false, false, false, false, false, false, false] rfl rfl (by kernel_rfl) (fun _ _ _ h => h) (Or.inl ⟨by rfl, ?_⟩) hHeld ?_ ?_
        rotate_left
        · rintro w' ⟨s0, s1, s2, s3, s4, s5, s6, s7⟩
          go_simp
          with_reducible rfl
        rotate_left
        · simp only [Act.put, List.setIfInBounds_toArray, List.set_cons_zero, List.set_cons_succ]
          rfl
        refine pure_ (i := 5) (N := some 95) (v := ?_) (a' := ?_) #[true, true, true, true, true, true, false, false, false, false, false, false, false, false, false, false] rfl rfl (by kernel_rfl) (fun _ _ _ h => h) (Or.inl ⟨by rfl, ?_⟩) ?_ ?_
        rotate_left
        · intro w'
          go_simp
          with_reducible rfl
        rotate_left
        · simp only [Act.put, List.setIfInBounds_toArray, List.set_cons_zero, List.set_cons_succ]
          rfl
        refine pure_ (i := 6) (N := some 96) (v := ?_) (a' := ?_) #[true, true, true, true, true, true, true, false, false, false, false, false, false, false, false, false] rfl rfl (by kernel_rfl) (fun _ _ _ h => h) (Or.inl ⟨by rfl, ?_⟩) ?_ ?_
        rotate_left
        · intro w'
          go_simp
          with_reducible rfl
        rotate_left
        · simp only [Act.put, List.setIfInBounds_toArray, List.set_cons_zero, List.set_cons_succ]
          rfl
        refine pure_ (i := 7) (N := some 97) (v := ?_) (a' := ?_) #[true, true, true, true, true, true, true, true, false, false, false, false, false, false, false, false] rfl rfl (by kernel_rfl) (fun _ _ _ h => h) (Or.inl ⟨by rfl, ?_⟩) ?_ ?_
        rotate_left
        · intro w'
          go_simp
          with_reducible rfl
        rotate_left
        · simp only [Act.put, List.setIfInBounds_toArray, List.set_cons_zero, List.set_cons_succ]
          rfl
        refine pure_ (i := 8) (N := some 98) (v := ?_) (a' := ?_) #[true, true, true, true, true, true, true, true, true, false, false, false, false, false, false, false] rfl rfl (by kernel_rfl) (fun _ _ _ h => h) (Or.inl ⟨by rfl, ?_⟩) ?_ ?_
        rotate_left
        · intro w'
          go_simp
          with_reducible rfl
        rotate_left
        · simp only [Act.put, List.setIfInBounds_toArray, List.set_cons_zero, List.set_cons_succ]
          rfl
        refine pure_ (i := 9) (N := some 99) (v := ?_) (a' := ?_) #[true, true, true, true, true, true, true, true, true, true, false, false, false, false, false, false] rfl rfl (by kernel_rfl) (fun _ _ _ h => h) (Or.inl ⟨by rfl, ?_⟩) ?_ ?_
        rotate_left
        · intro w'
          go_simp
          with_reducible rfl
        rotate_left
        · simp only [Act.put, List.setIfInBounds_toArray, List.set_cons_zero, List.set_cons_succ]
          rfl
        refine take_ (i := 10) (N := some 100) (v := ?_) (a' := ?_) #[true, true, true, true, true, true, true, true, true, true, true, false, false, false, false, false] rfl rfl (by kernel_rfl) (fun _ _ _ h => h) (Or.inl ⟨by rfl, ?_⟩) hHeld ?_ ?_
        rotate_left
        · rintro w' ⟨s0, s1, s2, s3, s4, s5, s6, s7⟩
          go_simp
          with_reducible rfl
        rotate_left
        · simp only [Act.put, List.setIfInBounds_toArray, List.set_cons_zero, List.set_cons_succ]
          rfl
        refine pure_ (i := 11) (N := some 101) (v := ?_) (a' := ?_) #[true, true, true, true, true, true, true, true, true, true, true, true, false, false, false, false] rfl rfl (by kernel_rfl) (fun _ _ _ h => h) (Or.inl ⟨by rfl, ?_⟩) ?_ ?_
        rotate_left
        · intro w'
          go_simp
          with_reducible rfl
        rotate_left
        · simp only [Act.put, List.setIfInBounds_toArray, List.set_cons_zero, List.set_cons_succ]
          rfl
        refine pure_ (i := 12) (N := some 102) (v := ?_) (a' := ?_) #[true, true, true, true, true, true, true, true, true, true, true, true, true, false, false, false] rfl rfl (by kernel_rfl) (fun _ _ _ h => h) (Or.inl ⟨by rfl, ?_⟩) ?_ ?_
        rotate_left
        · intro w'
          go_simp
          with_reducible rfl
        rotate_left
        · simp only [Act.put, List.setIfInBounds_toArray, List.set_cons_zero, List.set_cons_succ]
          rfl
        refine pure_ (i := 13) (N := some 103) (v := ?_) (a' := ?_) #[true, true, true, true, true, true, true, true, true, true, true, true, true, true, false, false] rfl rfl (by kernel_rfl) (fun _ _ _ h => h) (Or.inl ⟨by rfl, ?_⟩) ?_ ?_
        rotate_left
        · intro w'
          go_simp
          with_reducible rfl
        rotate_left
        · simp only [Act.put, List.setIfInBounds_toArray, List.set_cons_zero, List.set_cons_succ]
          rfl
        refine one_ (i := 14) (N := none) #[true, true, true, true, true, true, true, true, true, true, true, true, true, true, true, false] rfl rfl (by kernel_rfl) (by decide) (fun K hK => ?_)
        refine skip_ (w1 := ?_) (by rfl) rfl ?_ ?_
        rotate_left
        · go_simp
          rfl
        refine hK.out _ _ ⟨cell_drewI (cell_far6 nga a0 _ _ _ _ _ _), cell_drewI (cell_far6 nga a1 _ _ _ _ _ _), cell_drewI (cell_far6 nga a2 _ _ _ _ _ _), cell_drewI (cell_far6 nga a3 _ _ _ _ _ _), cell_drewI (cell_far6 nga a4 _ _ _ _ _ _), cell_drewI (cell_far6 nga a5 _ _ _ _ _ _), cell_drewI (cell_far6 ngr q1 _ _ _ _ _ _), cell_drewI (cell_far6 ngr q0 _ _ _ _ _ _)⟩ (fun hHeld => ?_)
        clear hK K
        refine pure_ (i := 15) (N := some 3) (v := ?_) (a' := ?_) #[true, true, true, true, true, true, true, true, true, true, true, true, true, true, true, true] rfl rfl (by kernel_rfl) (fun _ _ _ h => h) (Or.inl ⟨by rfl, ?_⟩) ?_ ?_
        rotate_left
        · intro w'
          go_simp
          with_reducible rfl
        rotate_left
        · simp only [Act.put, List.setIfInBounds_toArray, List.set_cons_zero, List.set_cons_succ]
          rfl
        refine done_ (by kernel_rfl) ?_
        -- END-F
        obtain ⟨V, hV⟩ : ∃ V, V = ((((((wc.setCell ⟨w.heap.size, 0, none⟩ (.int .u8 f)).setCell ⟨w.heap.size, 1, none⟩ (.int .u16 at_)).setCell ⟨w.heap.size, 2, none⟩ (.int .u16 many)).setCell ⟨w.heap.size, 3, none⟩ (.int .u16 to_)).setCell ⟨w.heap.size, 4, none⟩ (.slice A4 ws'.length c4)).setCell ⟨w.heap.size, 5, none⟩ (.slice A5 bs'.length c5)).drew := ⟨_, rfl⟩
        obtain ⟨hres, hr4, hr5, hB⟩ := HMD.out.fin V hV
        rw [← hV]
        have v0 := (blk_cell hres 0).trans rfl
        have v1 := (blk_cell hres 1).trans rfl
        have v2 := (blk_cell hres 2).trans rfl
        have v3 := (blk_cell hres 3).trans rfl
        have v4 := (blk_cell hres 4).trans rfl
        have v5 := (blk_cell hres 5).trans rfl
        have HRES := Aside0.mk hres
        have HR4 := Aside0.mk hr4
        have HR5 := Aside0.mk hr5
        have HBB := Aside0.mk hB
        clear hV hHeld hres hr4 hr5 hB HMD a0 a1 a2 a3 a4 a5 q0 q1 g0 g1 z0 z1 z2 z3 z4 z5 y0 ngr nga
        go_wp2
        refine bodyPost_ret (results_ct rfl _ _ w.heap.size 26 _ (0, 0) _ rfl HRES.out Try.underlying26 rfl (by kernel_rfl)) rfl ?_
        exact ⟨_, _, by rw [← E7.out]; rfl, HR4.out, HR5.out, HBB.out⟩

end Go.Proofs.Ytiaibplflmjohaa.P
