/-
  THE WALKS of QAE's mod, of (*Sets).Members.
-/
import Derived.Test.YmwhasRowN
namespace Go.Proofs.Ymwhas
open Go.RowKit
set_option linter.unusedVariables false

/-- Those below n that answer yes, in order. -/
def memb (p : Nat → Bool) : Nat → List Nat
  | 0 => []
  | n + 1 => memb p n ++ (if p n then [n] else [])

theorem memb_yes {p : Nat → Bool} {n : Nat} (h : p n = true) : memb p (n + 1) = memb p n ++ [n] := by
  show memb p n ++ (if p n then [n] else []) = _
  rw [if_pos h]

theorem memb_no {p : Nat → Bool} {n : Nat} (h : p n = false) : memb p (n + 1) = memb p n := by
  show memb p n ++ (if p n then [n] else []) = _
  rw [if_neg (by rw [h]; simp), List.append_nil]

theorem memb_length (p : Nat → Bool) : ∀ n, (memb p n).length = cnt n p
  | 0 => rfl
  | n + 1 => by
    show (memb p n ++ (if p n then [n] else [])).length = cnt n p + (if p n then 1 else 0)
    rw [List.length_append, memb_length p n]
    split <;> rfl

theorem memb_congr {p q : Nat → Bool} : ∀ n, (∀ i, i < n → p i = q i) → memb p n = memb q n
  | 0, _ => rfl
  | n + 1, h => by
    show memb p n ++ (if p n then [n] else []) = memb q n ++ (if q n then [n] else [])
    rw [memb_congr n (fun i hi => h i (by omega)), h n (by omega)]

/-- The member i stands behind those below it. -/
theorem memb_at {p : Nat → Bool} {i : Nat} (hp : p i = true) : ∀ n, i < n → (memb p n)[(memb p i).length]? = some i
  | 0, h => absurd h (Nat.not_lt_zero _)
  | n + 1, h => by
    by_cases e : i = n
    · subst e
      rw [memb_yes hp]
      simp
    · have ih := memb_at hp n (by omega)
      show (memb p n ++ (if p n then [n] else []))[(memb p i).length]? = some i
      have hlt := (List.getElem?_eq_some_iff.1 ih).1
      rw [List.getElem?_append_left hlt]
      exact ih

/-- 'lo' itself is written over 'lo'. -/
theorem turn_keep {w : World} {b m k : Nat} {f : Nat → Nat} {lo hi : Nat} (h : RowN w b m (turnTo f lo hi k)) (e : f k = lo) (hne : lo ≠ hi) : RowN (w.setCell ⟨b, k, none⟩ (.int .i64 (lo : Nat))) b m (turnTo f lo hi (k + 1)) :=
  (h.set k lo).congr (fun i _ => by
    show (if i = k then lo else if i < k then relab f lo hi i else f i) = if i < k + 1 then relab f lo hi i else f i
    by_cases e1 : i = k
    · subst e1
      rw [if_pos rfl, if_pos (by omega)]
      unfold relab
      rw [if_neg (by omega), e]
    · rw [if_neg e1]
      by_cases e2 : i < k
      · rw [if_pos e2, if_pos (by omega)]
      · rw [if_neg e2, if_neg (by omega)])

theorem within_of_below {w w' : World} (h : Below w.heap.size w w') : Within (fun _ => False) w w' := ⟨h.os, h.tape, h.output, h.size, fun k hk _ => h.block k hk⟩

set_option maxHeartbeats 400000 in
theorem qae_mod (x : Int) (n : Nat) (w : World) (h0 : 0 < n) (hn : n ≤ 1048576) (hx : -9223372036854775808 ≤ x ∧ x ≤ 9223372036854775807) :
    Calls Yasv.prog 26 #[.int .i64 x, .int .i64 (n : Nat)] w fun e w' => ∃ r : Nat, e = .returned (.int .i64 (r : Nat)) ∧ r < n ∧ w' = w := by
  have b1 : x.tmod (n : Int) < (n : Int) := Int.tmod_lt_of_pos _ (by omega)
  have b2 : -(n : Int) < x.tmod (n : Int) := by
    have := Int.lt_tmod_of_pos x (b := (n : Int)) (by omega)
    omega
  by_cases hs : x.tmod (n : Int) < 0
  · go_enter Yasv.func26, Yasv.ntmps26
    go_wp2
    go_ret
    refine ⟨(x.tmod (n : Int) + (n : Int)).toNat, ?_, by omega, rfl⟩
    rw [Int.toNat_of_nonneg (by omega)]
    rfl
  · go_enter Yasv.func26, Yasv.ntmps26
    go_wp2
    go_ret
    refine ⟨(x.tmod (n : Int)).toNat, ?_, by omega, rfl⟩
    rw [Int.toNat_of_nonneg (by omega)]
    rfl

theorem members_out (ps pb zb n : Nat) (s : St) (a : Int) (w : World) (hn : n ≤ 1048576) (hS : SetsAt w ps pb zb n s) (ha : a < 0 ∨ (n : Int) ≤ a) :
    Calls Yasv.prog 27 #[.pointer (some ⟨ps, 0, none⟩), .int .i64 a] w fun e w' => e = .returned (.tuple #[.slice none 0 0, .bool false]) ∧ w' = w := by
  have h0 := hS.c0
  clear hS
  go_enter Yasv.func27, Yasv.ntmps27
  go_wp2_with fail
  refine (find_out ps pb n a _ ha hn h0).mono ?_
  rintro e w' ⟨rfl, rfl⟩
  go_wp2
  go_ret2
  exact ⟨rfl, rfl⟩

set_option maxHeartbeats 1000000 in
theorem members_in (ps pb zb n : Nat) (s : St) (x : Nat) (w : World) (hI : Inv n s) (hn : n ≤ 1048576) (hS : SetsAt w ps pb zb n s) (hx : x < n) :
    Calls Yasv.prog 27 #[.pointer (some ⟨ps, 0, none⟩), .int .i64 (x : Nat)] w fun e w' => ∃ g cap, e = .returned (.tuple #[.slice (some ⟨g, 0, none⟩) (memb (fun i => s.R i == s.R x) n).length cap, .bool true]) ∧ w.heap.size ≤ g ∧
      (∀ k v, (memb (fun i => s.R i == s.R x) n)[k]? = some v → w'.cell? ⟨g, k, none⟩ = some (.int .i64 (v : Nat))) ∧ g < w'.heap.size ∧ Within (fun _ => False) w w' := by
  have h0 := hS.c0
  have h1 := hS.c1
  have AI := hI.forest
  have hr := AI.rlt x hx
  have hz := hS.cz _ hr
  have hzl := AI.zle _ hr
  have HS : Aside (SetsAt w ps pb zb n s) := hS
  obtain ⟨i0, hi, hz0, hz1, hz2⟩ := info_parts Yasv.inf3
  have hmk : ∀ w : World, (Instr.makeSlice 26 (.int .i64 0) (.int .i64 (s.Z (s.R x) : Nat))).run Yasv.prog w = .ok (.slice (some ⟨w.heap.size, 0, none⟩) 0 (s.Z (s.R x))) (w.alloc (.cells (madeCells #[.int .i64 0] (s.Z (s.R x))) 3)) := fun w => by
    have := run_make (P := Yasv.prog) w 26 3 i0 (.int .i64 0) Yasv.underlying26 hi hz0 .i64 .i64 0 (s.Z (s.R x) : Nat) (by omega) (by omega) (by rw [hz2]; omega) (by omega)
    rw [hz1] at this
    have e : (Value.int .i64 0).cells = #[.int .i64 0] := rfl
    rw [e] at this
    simpa using this
  obtain ⟨r, ER⟩ : ∃ r, Aside (s.R x = r) := ⟨_, rfl⟩
  rw [ER.out] at hr hz hzl hmk ⊢
  clear hS hI
  go_enter Yasv.func27, Yasv.ntmps27
  go_wp2_with fail
  refine (find_in ps pb n x s.P s.Z s.R _ AI hx hn h0 HS.out.cp).mono ?_
  rintro e w' ⟨rfl, rfl⟩
  rw [ER.out]
  have h0a : ∀ o, (w'.alloc o).cell? ⟨ps, 0, none⟩ = some (.slice (some ⟨pb, 0, none⟩) n n) := fun o => (HS.out.alloc o).c0
  go_wp2_with fail
  go_loopg [8, 31] n (fun g v vi wr => ∃ k : Nat, k ≤ n ∧ n - k ≤ g ∧ vi = .int .i64 (k : Nat) ∧ v ≠ .slice none 0 0 ∧ wr.ownsRow w'.heap.size 3 1 v (memb (fun i => s.R i == r) k).length ((memb (fun i => s.R i == r) k).map (fun j : Nat => Value.int .i64 (j : Nat))) ∧ Below w'.heap.size w' wr)
  case atStart => exact ⟨0, Nat.zero_le _, Nat.le_refl _, rfl, by simp, World.ownsRow_made w' _ _ (Nat.le_refl _) (by unfold maxLen; omega) (by simp [size_madeCells]), (Below.refl _ _).alloc (Nat.le_refl _) _⟩
  case round =>
    obtain ⟨k, hk, hg, rfl, hv, hown, hBl⟩ := hrel
    have hml : (memb (fun i => s.R i == r) k).length ≤ k := by rw [memb_length]; exact cnt_le _ _
    have hsz := hBl.size
    have hTr : SetsAt wr ps pb zb n s := HS.out.within (within_of_below hBl) (fun _ _ e => e)
    have k0 := hTr.c0
    have Bd : Aside (u8 ≠ .slice none 0 0 ∧ wr.ownsRow w'.heap.size 3 1 u8 (memb (fun i => s.R i == r) k).length ((memb (fun i => s.R i == r) k).map (fun j : Nat => Value.int .i64 (j : Nat))) ∧ Below w'.heap.size w' wr ∧ SetsAt wr ps pb zb n s) := ⟨hv, hown, hBl, hTr⟩
    clear hv hown hBl hTr h0 h1 hz hmk h0a
    by_cases hlt : k < n
    · by_cases e : s.R k = r
      · have e' : ((s.R k : Int) == (r : Int)) = true := by rw [beq_iff_eq]; omega
        have E : Aside (memb (fun i => s.R i == r) (k + 1) = memb (fun i => s.R i == r) k ++ [k]) := memb_yes (by simp [e])
        clear e
        go_wp2_with fail
        refine (root_any ps pb n k s.P s.Z s.R _ AI hlt hn k0 Bd.out.2.2.2.cp).mono ?_
        rintro e w2 ⟨rfl, rfl⟩
        go_wp2_with (at_builtin; refine wpList_append_own _ rfl _ _ 26 rfl w'.heap.size 3 i0 (.int .i64 0) 1 8 Yasv.underlying26 hi hz0 hz1 hz2 rfl (by decide) _ _ _ rfl (Bd.out.2.1.alloc _) ⟨w2.heap.size, 0, none⟩ 1 1 [.int .i64 (k : Nat)] rfl rfl ?c1 ?c2 ?c3 ?c4 ?c5 ?_)
        case c1 => exact cell_one_new _ _ _
        case c2 => intro u hu; simp at hu; subst hu; rfl
        case c3 => unfold maxLen; omega
        case c4 => omega
        case c5 => simp; omega
        intro v' w3 hown' hgrow hnil
        have R1 : w3.ownsRow w'.heap.size 3 1 v' (memb (fun i => s.R i == r) (k + 1)).length ((memb (fun i => s.R i == r) (k + 1)).map (fun j : Nat => Value.int .i64 (j : Nat))) := by
          rw [E.out]
          simpa using hown'
        have R2 : Below w'.heap.size w' w3 := (Bd.out.2.2.1.alloc hsz _).grown hgrow (by simp; omega) (fun q hq => (Bd.out.2.1.lt q hq).1)
        have Be : Aside (v' ≠ .slice none 0 0 ∧ w3.ownsRow w'.heap.size 3 1 v' (memb (fun i => s.R i == r) (k + 1)).length ((memb (fun i => s.R i == r) (k + 1)).map (fun j : Nat => Value.int .i64 (j : Nat))) ∧ Below w'.heap.size w' w3) := ⟨hnil, R1, R2⟩
        clear hown' hgrow hnil R1 R2 Bd
        go_wp2
        go_roundg (n - (k + 1))
        case measure => omega
        case rel => exact ⟨k + 1, by omega, by omega, by go_num, Be.out⟩
      · have e' : ((s.R k : Int) == (r : Int)) = false := by rw [beq_eq_false_iff_ne]; omega
        have E : Aside (memb (fun i => s.R i == r) (k + 1) = memb (fun i => s.R i == r) k) := memb_no (by simp [e])
        clear e
        go_wp2_with fail
        refine (root_any ps pb n k s.P s.Z s.R _ AI hlt hn k0 Bd.out.2.2.2.cp).mono ?_
        rintro e w2 ⟨rfl, rfl⟩
        go_wp2
        go_roundg (n - (k + 1))
        case measure => omega
        case rel => exact ⟨k + 1, by omega, by omega, by go_num, by rw [E.out]; exact ⟨Bd.out.1, Bd.out.2.1, Bd.out.2.2.1⟩⟩
    · have hkn : k = n := by omega
      have hex : ∃ g cap, u8 = .slice (some ⟨g, 0, none⟩) (memb (fun i => s.R i == r) n).length cap ∧ w'.heap.size ≤ g ∧ (∀ j v, (memb (fun i => s.R i == r) n)[j]? = some v → wr.cell? ⟨g, j, none⟩ = some (.int .i64 (v : Nat))) ∧ g < wr.heap.size := by
        rw [← hkn]
        obtain ⟨hne, ⟨hlen, hor⟩, _⟩ := Bd.out
        rcases hor with ⟨q1, _⟩ | ⟨g, cap, cur, q1, q2, q3, q4, q5, q6, q7⟩
        · exact absurd q1 hne
        · refine ⟨g, cap, q1, q2, fun j v hj => ?_, (Array.getElem?_eq_some_iff.1 q3).1⟩
          have hjl := (List.getElem?_eq_some_iff.1 hj).1
          have e : (cur.toList.take ((memb (fun i => s.R i == r) k).length * 1))[j]? = some (Value.int .i64 (v : Nat)) := by rw [q7, List.getElem?_map, hj]; rfl
          rw [List.getElem?_take, if_pos (by omega)] at e
          simp [World.cell?, q3]
          simpa using e
      obtain ⟨g, cap, hv, hg1, hg2, hg3⟩ := hex
      have Be : Aside ((∀ j v, (memb (fun i => s.R i == r) n)[j]? = some v → wr.cell? ⟨g, j, none⟩ = some (.int .i64 (v : Nat))) ∧ Below w'.heap.size w' wr) := ⟨hg2, Bd.out.2.2.1⟩
      clear hg2 Bd hkn
      rw [hv]
      clear hv
      go_wp2
      go_ret2
      exact ⟨g, cap, rfl, hg1, Be.out.1, hg3, within_of_below Be.out.2⟩

end Go.Proofs.Ymwhas
