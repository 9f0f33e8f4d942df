/- What Disk, Told, IsClient answer. No condition. -/
import Derived.Test.YtafdnalanmbcpaaCmdW
import Derived.Test.YtafdnalanmbcpaaWire8
set_option linter.unusedSimpArgs false
set_option linter.unusedVariables false
namespace Go.Proofs.Ytafdnalanmbcpaa
open Go.RowKit
set_option maxHeartbeats 4000000
set_option maxRecDepth 100000

namespace Cmd
/-- those of the first k disks that are in l -/
def diskTo (l : List Int) : Nat → List Int
  | 0 => []
  | k + 1 => if (k : Int) ∈ l then diskTo l k ++ [(k : Int)] else diskTo l k
theorem diskTo_len (l : List Int) (k : Nat) : (diskTo l k).length ≤ k := by
  induction k with
  | zero => simp [diskTo]
  | succ k ih =>
    rw [diskTo]
    split
    · simp; omega
    · omega
theorem mem_diskTo (l : List Int) (k : Nat) (x : Int) : x ∈ diskTo l k ↔ (0 ≤ x ∧ x < k) ∧ x ∈ l := by
  induction k with
  | zero => simp [diskTo]; omega
  | succ k ih =>
    rw [diskTo]
    by_cases h : (k : Int) ∈ l
    · rw [if_pos h, List.mem_append, ih]
      constructor
      · rintro (⟨h1, h2⟩ | h1)
        · exact ⟨by omega, h2⟩
        · simp at h1
          subst h1
          exact ⟨by omega, h⟩
      · rintro ⟨h1, h2⟩
        by_cases e : x = k
        · exact Or.inr (by simp [e])
        · exact Or.inl ⟨by omega, h2⟩
    · rw [if_neg h, ih]
      constructor
      · rintro ⟨h1, h2⟩
        exact ⟨by omega, h2⟩
      · rintro ⟨h1, h2⟩
        refine ⟨?_, h2⟩
        by_cases e : x = k
        · subst e; exact absurd h2 h
        · omega
theorem rise_snoc (p : Int) (l : List Int) (x : Int) (h : rise p l = true) (hp : p < x) (hx : ∀ y ∈ l, y < x) (h6 : x < 6) : rise p (l ++ [x]) = true := by
  induction l generalizing p with
  | nil => simp [rise, hp, h6]
  | cons d l ih =>
    simp only [rise, Bool.and_eq_true] at h
    simp only [List.cons_append, rise, Bool.and_eq_true]
    exact ⟨h.1, ih d h.2 (hx d (by simp)) (fun y hy => hx y (by simp [hy]))⟩
theorem rise_diskTo (l : List Int) (k : Nat) (hk : k ≤ 6) : rise (-1) (diskTo l k) = true := by
  induction k with
  | zero => rfl
  | succ k ih =>
    rw [diskTo]
    split
    · exact rise_snoc _ _ _ (ih (by omega)) (by omega) (fun y hy => by have := (mem_diskTo l k y).1 hy; omega) (by omega)
    · exact ih (by omega)
end Cmd

theorem cmd_Disk (l : List Int) (ao : Option Addr) (cap : Nat) (W : World) (hs : Sl W (.slice ao l.length cap) l.length 1 (i64v l)) :
    Calls Try.prog 9 #[.slice ao l.length cap] W (fun e w' => ∃ v, e = .returned v ∧ w'.ownsRow W.heap.size 3 1 v (Cmd.diskTo l 6).length (i64v (Cmd.diskTo l 6)) ∧ Below W.heap.size W w') := by
  obtain ⟨ao', cap', ev, h1, h2, _, hpos⟩ := hs
  cases ev
  unfold maxLen at h2
  (go_enter Try.func9, Try.ntmps9)
  go_wp2_with fail
  go_loopw [7, 3] (fun n o wr => ∃ k : Nat, k ≤ 6 ∧ n = .int .i64 (k) ∧ wr.ownsRow W.heap.size 3 1 o (Cmd.diskTo l k).length (i64v (Cmd.diskTo l k)) ∧ Below W.heap.size W wr) (fun n _ _ => 6 - (intOf n).toNat)
  case atStart => exact ⟨0, by omega, rfl, World.ownsRow_nil _ _ _ _, Below.refl _ _⟩
  obtain ⟨k, hk, rfl, hown, hB⟩ := hrel
  rcases Nat.lt_or_ge k 6 with hlt | hge
  · generalize wr = wa at *
    have hkl := Cmd.diskTo_len l k
    have hst : Hid (Cmd.diskTo l (k + 1) = if (k : Int) ∈ l then Cmd.diskTo l k ++ [(k : Int)] else Cmd.diskTo l k) := Lib.hid rfl
    generalize Cmd.diskTo l k = ds at *
    generalize hu3 : u3 = o at *
    clear hu3
    obtain ⟨oa, ocap, rfl, _, _, _, _⟩ := Sl.of_own hown
    go_wp2_with fail
    go_loopw [12, 3] (fun i oo wq => ∃ j : Nat, j ≤ l.length ∧ i = .int .i64 (j) ∧ oo = .slice oa ds.length ocap ∧ wq = wa ∧ Hid (∀ x ∈ l.take j, x ≠ (k : Int))) (fun i _ _ => l.length - (intOf i).toNat)
    case atStart => exact ⟨0, by omega, rfl, rfl, rfl, Lib.hid (by simp)⟩
    obtain ⟨j, hj, rfl, rfl, rfl, hno⟩ := hrel
    rcases Nat.lt_or_ge j l.length with hjl | hjg
    · obtain ⟨bb, off, rfl, hb1, hcell⟩ := hpos (by omega)
      have hc0 := hcell j (.int .i64 (l[j])) (by simp [i64v, hjl])
      have hc := (hB.cell (p := ⟨bb, off + j, none⟩) hb1).trans hc0
      have hmem := List.getElem_mem hjl
      have htk : Hid (l.take (j + 1) = l.take j ++ [l[j]]) := Lib.hid (take_snoc' l j hjl)
      generalize l[j] = x at *
      clear hcell hc0 hpos
      by_cases hx : x = (k : Int)
      · have hbeq : (x == (k : Int)) = true := by simpa using hx
        subst hx
        rw [if_pos hmem] at hst
        have hn1 : (ds.length + 1) * 8 ≤ 140737488355328 := by omega
        have hn2 : ds.length + 1 ≤ maxLen := by unfold maxLen; omega
        have hz := hB.size
        go_wp2_with (at_builtin; refine wpl_app rfl rfl ei_int W.heap.size rfl (hown.alloc _) [.int .i64 ((k : Nat))] rfl rfl (Blk.new wr _ _) rfl hn1 hn2 (by simp; omega) ?_; intro v' w4 ho1 hk1; obtain ⟨ao', cap', rfl, _, _, _, _⟩ := Sl.of_own ho1)
        refine ⟨⟨k + 1, by omega, by go_num, ?_, ?_⟩, by simp [intOf]; omega⟩
        · rw [hst.out]
          simpa [i64v] using ho1
        · exact (hB.alloc hz _).trans (hk1.below (by simp; omega) (fun z hz e => by have := own_ge hown z e; omega))
      · have hbeq : (x == (k : Int)) = false := by simpa using hx
        clear hst
        go_wp2_with fail
        refine ⟨⟨j + 1, by omega, by go_num, by first | trivial | rfl, by first | trivial | rfl, Lib.hid ?_⟩, by simp [intOf]; omega⟩
        rw [htk.out]
        intro y hy
        rcases List.mem_append.1 hy with hy | hy
        · exact hno.out y hy
        · simp at hy; rw [hy]; exact hx
    · obtain rfl : j = l.length := by omega
      have hnm : ¬ (k : Int) ∈ l := fun h => hno.out k (by rw [List.take_length]; exact h) rfl
      rw [if_neg hnm] at hst
      go_wp2_with fail
      refine ⟨⟨k + 1, by omega, by go_num, ?_, hB⟩, by simp [intOf]; omega⟩
      rw [hst.out]
      exact hown
  · obtain rfl : k = 6 := by omega
    obtain ⟨oa, ocap, rfl, _, _, _, _⟩ := Sl.of_own hown
    go_wp2_with fail
    go_ret
    exact ⟨_, rfl, hown, hB⟩
end Go.Proofs.Ytafdnalanmbcpaa
