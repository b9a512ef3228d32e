/-
  THE WALKS of slices.Clone and slices.Equal at []int, as far as the laws come to them. After the guide's own texts for the two, turned to this program.
-/
import Derived.Test.YmwhasMem
import Derived.Deep.QuietTactic
import Derived.BigQuiet
namespace Go.Proofs.Ymwhas
open Go.RowKit
set_option linter.unusedVariables false

theorem Yasv.inf3 : (Yasv.prog.info? 3).map (fun i => (i.zero, i.size, i.bytes)) = some (some (.int .i64 0), 1, 8) := by kernel_rfl

/-- The first n cells of block b. -/
def Cells (w : World) (b n : Nat) (f : Nat → Int) : Prop := b < w.heap.size ∧ ∀ i, i < n → w.cell? ⟨b, i, none⟩ = some (.int .i64 (f i))

theorem Cells.within {S : Nat → Prop} {w w' : World} {b n : Nat} {f : Nat → Int} (h : Cells w b n f) (k : Within S w w') (hS : ¬ S b) : Cells w' b n f :=
  ⟨Nat.lt_of_lt_of_le h.1 k.size, fun i hi => by
    rw [← h.2 i hi]
    exact World.cell?_of_block (w := w) (k.block b h.1 hS)⟩

theorem Cells.drewN {w : World} {b n : Nat} {f : Nat → Int} (h : Cells w b n f) (q : Nat) : Cells (w.drewN q) b n f := h

theorem Cells.of_row {w : World} {b n : Nat} {f : Nat → Int} (h : w.rowIs b 3 n (fun i => .int .i64 (f i))) : Cells w b n f := ⟨h.lt, fun _ hi => h.cell hi⟩

set_option maxHeartbeats 2000000 in
set_option maxRecDepth 100000 in
theorem clone_any (b n c : Nat) (f : Nat → Int) (w : World) (hn : n ≤ 1048576) (hc : Cells w b n f) :
    Calls Yasv.prog 13 #[.slice (some ⟨b, 0, none⟩) n c] w fun e w' => ∃ g cap, e = .returned (.slice (some ⟨g, 0, none⟩) n cap) ∧ w.heap.size ≤ g ∧ Cells w' g n f ∧ Within (fun _ => False) w w' := by
  obtain ⟨i0, hi, hz0, hz1, hz2⟩ := info_parts Yasv.inf3
  have q26 : ∀ (w : World) (a : Option Addr) (n c n' c' : Nat), (binOp .eql 26 (.slice a n c) (.slice none n' c')).run Yasv.prog w = .ok (.bool a.isNone) w := fun w a n c n' c' => Lib.run_eql_slice_nil w _ _ a n c n' c' Yasv.underlying26
  have A : Aside (Cells w b n f) := hc
  clear hc
  go_enter Yasv.func13, Yasv.ntmps13
  go_wp2_with (at_builtin; refine wpList_append_own _ rfl _ _ 26 rfl w.heap.size 3 i0 (.int .i64 0) 1 8 Yasv.underlying26 hi hz0 hz1 hz2 rfl (by decide) _ _ _ rfl (World.ownsRow_made w #[] 0 (Nat.le_refl _) (Nat.zero_le _) rfl) ⟨b, 0, none⟩ n c ((List.range n).map (fun i => Value.int .i64 (f i))) rfl ?qc1 ?qc2 ?qc3 ?qc4 ?qc5 ?qc6 ?_)
  case qc1 => simp
  case qc2 =>
    intro j u hj
    have hjn : j < n := by
      have := (List.getElem?_eq_some_iff.1 hj).1
      simpa using this
    have e : ((List.range n).map (fun i => Value.int .i64 (f i)))[j]? = some (Value.int .i64 (f j)) := by simp [hjn]
    rw [e] at hj
    rw [← hj, ← A.out.2 j hjn]
    rw [Addr.add_lit, Nat.zero_add]
    exact World.cell?_of_block (w := w) (Below.heap_alloc _ _ _ A.out.1)
  case qc3 => intro u hu; obtain ⟨x, _, rfl⟩ := List.mem_map.1 hu; rfl
  case qc4 => unfold maxLen; omega
  case qc5 => omega
  case qc6 => simp
  intro v' w1 hown hgrow hnil
  have hex : ∃ g cap, v' = .slice (some ⟨g, 0, none⟩) n cap ∧ w.heap.size ≤ g ∧ Cells w1 g n f := by
    obtain ⟨hlen, hor⟩ := hown
    rcases hor with ⟨h1, _⟩ | ⟨g, cap, cur, h1, h2, h3, h4, h5, h6, h7⟩
    · exact absurd h1 hnil
    · refine ⟨g, cap, h1, h2, (Array.getElem?_eq_some_iff.1 h3).1, fun i hin => ?_⟩
      have e : (cur.toList.take (n * 1))[i]? = some (Value.int .i64 (f i)) := by rw [h7]; simp [hin]
      rw [List.getElem?_take, if_pos (by omega)] at e
      simp [World.cell?, h3]
      simpa using e
  obtain ⟨g, cap, hv, hg, hC⟩ := hex
  clear hown hnil
  rw [hv]
  go_wp2
  go_ret
  refine ⟨g, cap, rfl, hg, hC, ?_⟩
  exact ⟨hgrow.os, hgrow.tape, hgrow.output, Nat.le_trans (by simp) hgrow.size, fun k hk _ => by
    rw [hgrow.block k (by simp; omega) (by simp [Value.ownBlock]; omega)]
    exact Below.heap_alloc _ _ _ hk⟩

set_option maxHeartbeats 2000000 in
set_option maxRecDepth 100000 in
theorem equal_true (b1 b2 n c d : Nat) (f : Nat → Int) (w : World) (hn : n ≤ 1048576) (h1 : Cells w b1 n f) (h2 : Cells w b2 n f) :
    Calls Yasv.prog 15 #[.slice (some ⟨b1, 0, none⟩) n c, .slice (some ⟨b2, 0, none⟩) n d] w fun e w' => e = .returned (.bool true) ∧ ∃ q, w' = w.drewN q := by
  have A : Aside (Cells w b1 n f ∧ Cells w b2 n f) := ⟨h1, h2⟩
  clear h1 h2
  go_enter Yasv.func15, Yasv.ntmps15
  go_wp2
  go_loopg [13] n (fun g s13 wr => ∃ k q : Nat, k ≤ n ∧ n - k ≤ g ∧ s13 = .int .i64 k ∧ wr = w.drewN q)
  case atStart => exact ⟨0, 0, Nat.zero_le _, by omega, rfl, rfl⟩
  case round =>
    obtain ⟨k, q, hk, hg, rfl, rfl⟩ := hrel
    by_cases hlt : k < n
    · have g1 := A.out.1.2 k hlt
      have g2 := A.out.2.2 k hlt
      generalize f k = x at g1 g2
      go_wp2_with fail
      go_region
      go_wp2
      go_roundg (n - (k + 1))
      case measure => omega
      case rel => exact ⟨k + 1, q + 1, by omega, by omega, by go_num, rfl⟩
    · go_wp2
      go_ret
      exact ⟨rfl, q, rfl⟩

/-- (*Sets).Count. -/
theorem count_any (ps c : Nat) (w : World) (h : w.cell? ⟨ps, 2, none⟩ = some (.int .i64 (c : Nat))) :
    Calls Yasv.prog 14 #[.pointer (some ⟨ps, 0, none⟩)] w fun e w' => e = .returned (.int .i64 (c : Nat)) ∧ w' = w := by
  go_enter Yasv.func14, Yasv.ntmps14
  go_wp2
  go_ret
  exact ⟨rfl, rfl⟩

end Go.Proofs.Ymwhas
