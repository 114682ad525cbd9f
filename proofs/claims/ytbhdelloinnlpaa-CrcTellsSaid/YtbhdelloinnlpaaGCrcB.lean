import Derived.Test.YtbhdelloinnlpaaProg
import Derived.Test.YtbhdelloinnlpaaWWords
import Derived.WalkKit
import Derived.Outline
import Derived.KernelRfl
import Derived.Below
import Derived.Tactics
import Derived.Test.YtbhdelloinnlpaaGCrcA
namespace Go.Proofs.Ytbhdelloinnlpaa.GCrc
open Go.RowKit Go.Proofs.YtbhdelloinnlpaaW.PrintWords
set_option linter.unusedVariables false
set_option linter.unusedSimpArgs false

/-- a table's row -/
def T (n : Int) : Int := rd (tabI 16) n
/-- one byte more, by the table -/
def nextI (s c : Int) : Int :=
  let s1 := Go.bits .xor .u16 s (IntKind.u16.wrap c)
  let s2 := Go.bits .xor .u16 (s1 / 16) (T (Go.bits .and .u16 s1 15))
  Go.bits .xor .u16 (s2 / 16) (T (Go.bits .and .u16 s2 15))
theorem bits_u16 (b : BinOp) (s t : Int) : 0 ≤ Go.bits b .u16 s t ∧ Go.bits b .u16 s t < 65536 := by
  have h : ∀ n : Int, 0 ≤ IntKind.u16.wrap n ∧ IntKind.u16.wrap n < 65536 := fun n => by
    simp [IntKind.wrap, IntKind.bits, IntKind.signed]; omega
  exact h _
theorem and15 (s : Int) : 0 ≤ Go.bits .and .u16 s 15 ∧ Go.bits .and .u16 s 15 < 16 := by
  have h : ∀ n : Int, 0 ≤ n → n < 16 → 0 ≤ IntKind.u16.wrap n ∧ IntKind.u16.wrap n < 16 := fun n h0 h1 => by
    simp [IntKind.wrap, IntKind.bits, IntKind.signed]; omega
  refine h _ (Int.natCast_nonneg _) ?_
  have : (BitVec.ofInt IntKind.u16.bits s &&& BitVec.ofInt IntKind.u16.bits 15).toNat ≤ 15 := by
    rw [BitVec.toNat_and]
    exact Nat.and_le_right
  exact_mod_cast Nat.lt_succ_of_le this
theorem tab_cell {w : World} {g : Nat} (hg : w.heap[g]? = some (.cells (tab 16) 49 (0, 0))) (n : Int) (h : 0 ≤ n ∧ n < 16) : w.cell? ⟨g, n.toNat, none⟩ = some (.int .u16 (T n)) := by
  rw [blk_cell hg]
  have : ∀ i : Fin 16, (tabI 16)[i.val]? = some ((tabI 16).getD i.val 0) := by decide +kernel
  have := this ⟨n.toNat, by omega⟩
  simp only at this
  unfold tab T rd
  rw [List.getElem?_toArray, List.getElem?_map, this]
  rfl
set_option maxHeartbeats 400000 in
theorem next_any (g : Nat) (s c : Int) (w : World) (hg : w.heap[g]? = some (.cells (tab 16) 49 (0, 0))) :
    Calls Try.prog 27 #[.pointer (some ⟨g, 0, none⟩), .int .u16 s, .int .u8 c] w fun e w' => e = .returned (.int .u16 (nextI s c)) ∧ Drawn0 w w' := by
  have c1 := tab_cell hg _ (and15 (Go.bits .xor .u16 s (IntKind.u16.wrap c)))
  have c2 := tab_cell hg _ (and15 (Go.bits .xor .u16 (Go.bits .xor .u16 s (IntKind.u16.wrap c) / 16) (T (Go.bits .and .u16 (Go.bits .xor .u16 s (IntKind.u16.wrap c)) 15))))
  have b1 := (and15 (Go.bits .xor .u16 s (IntKind.u16.wrap c))).1
  have b2 := (and15 (Go.bits .xor .u16 s (IntKind.u16.wrap c))).2
  have b3 := (and15 (Go.bits .xor .u16 (Go.bits .xor .u16 s (IntKind.u16.wrap c) / 16) (T (Go.bits .and .u16 (Go.bits .xor .u16 s (IntKind.u16.wrap c)) 15)))).1
  have b4 := (and15 (Go.bits .xor .u16 (Go.bits .xor .u16 s (IntKind.u16.wrap c) / 16) (T (Go.bits .and .u16 (Go.bits .xor .u16 s (IntKind.u16.wrap c)) 15)))).2
  have d1 := (bits_u16 .xor s (IntKind.u16.wrap c)).1
  have d2 := (bits_u16 .xor s (IntKind.u16.wrap c)).2
  have d3 := (bits_u16 .xor (Go.bits .xor .u16 s (IntKind.u16.wrap c) / 16) (T (Go.bits .and .u16 (Go.bits .xor .u16 s (IntKind.u16.wrap c)) 15))).1
  have d4 := (bits_u16 .xor (Go.bits .xor .u16 s (IntKind.u16.wrap c) / 16) (T (Go.bits .and .u16 (Go.bits .xor .u16 s (IntKind.u16.wrap c)) 15))).2
  clear hg
  go_enter Try.func27, Try.ntmps27
  go_wp2
  go_ret
  exact ⟨rfl, Drawn0.refl _⟩

theorem tab_len : (tab 16).size = 16 := tab_size 16
set_option maxHeartbeats 400000 in
theorem Next_any (s c : Int) (w : World) :
    Calls Try.prog 13 #[.int .u16 s, .int .u8 c] w fun e w' => e = .returned (.int .u16 (nextI s c)) ∧ Below w.heap.size w w' := by
  go_enter Try.func13, Try.ntmps13
  go_wp2_with (go_at_call 26; refine (halves_any _).mono ?_; rintro e w1 ⟨rfl, hb⟩; rw [tab_16])
  refine (next_any _ s c _ (by rw [tab_16]; exact heap_alloc_new _ _)).mono ?_
  rintro e w' ⟨rfl, hd⟩
  have HD := Aside0.mk hd
  clear hd
  go_wp2
  go_ret
  obtain ⟨n, rfl⟩ := HD.out
  exact ⟨rfl, pw_below_drewN (below_alloc hb _) _⟩

theorem take_fold (l : List Int) (i : Nat) (h : i < l.length) : (l.take (i + 1)).foldl nextI 65535 = nextI ((l.take i).foldl nextI 65535) (rd l i) := by
  rw [List.take_succ_eq_append_getElem h, List.foldl_append]
  simp [rd, h]
set_option maxHeartbeats 400000 in
theorem Sum_any (A0 : Option Addr) (c0 : Nat) (l0 : List Int) (w : World) (hr0 : Kd.C (Kd.int .u8) w A0 l0.length l0) (hc0 : l0.length ≤ c0) (hlen : l0.length ≤ 140737488351232) :
    Calls Try.prog 9 #[.slice A0 l0.length c0] w fun e w' => e = .returned (.int .u16 (l0.foldl nextI 65535)) ∧ Below w.heap.size w w' := by
  have HR := Aside0.mk hr0
  clear hr0 hc0
  go_enter Try.func9, Try.ntmps9
  go_wp2_with (go_at_call 26; refine (halves_any _).mono ?_; rintro e w1 ⟨rfl, hb⟩; rw [tab_16])
  have hg := heap_alloc_new w1 (.cells (tab 16) 49)
  have hb2 := below_alloc hb (.cells (tab 16) 49)
  rw [tab_16] at hg hb2
  rw [← tab_16] at *
  generalize w1.alloc (.cells (tab 16) 49) = w2 at *
  generalize w1.heap.size = g at *
  have HG := Aside0.mk hg
  have HB := Aside0.mk hb2
  clear hb hg hb2
  go_loopw [4, 10] (fun s i wr => ∃ k : Nat, k ≤ l0.length ∧ i = .int .i64 k ∧ s = .int .u16 ((l0.take k).foldl nextI 65535) ∧ Drawn0 w2 wr) (fun _ i _ => l0.length - (intOf i).toNat)
  case atStart => exact ⟨0, Nat.zero_le _, rfl, rfl, Drawn0.refl _⟩
  case round =>
    obtain ⟨k, hk, rfl, rfl, ⟨n, rfl⟩⟩ := hrel
    by_cases hlt : k < l0.length
    · have HT := Aside0.mk (take_fold l0 k hlt)
      obtain ⟨ad, rfl, hcell⟩ := Kd.at_int (Kd.C_below HR.out HB.out) k (by omega) (by omega)
      rw [Int.toNat_natCast] at hcell
      go_wp2_with (go_at_call 27; refine (next_any g _ _ _ (by exact HG.out)).mono ?_; rintro e w' ⟨rfl, ⟨m, rfl⟩⟩)
      go_roundw
      case rel => exact ⟨k + 1, by omega, by go_num, by rw [HT.out], by repeat (first | exact Drawn0.refl _ | apply Drawn0.step)⟩
      case measure => simp [intOf]; omega
    · obtain rfl : k = l0.length := by omega
      go_wp2
      go_ret
      exact ⟨by rw [List.take_length]; rfl, pw_below_drewN HB.out _⟩
end Go.Proofs.Ytbhdelloinnlpaa.GCrc
