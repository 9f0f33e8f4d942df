/- What Good of a command answers. No condition. -/
import Derived.Test.YtafdnalanmbcpaaCmdW
set_option linter.unusedSimpArgs false
set_option linter.unusedVariables false
namespace Go.Proofs.Ytafdnalanmbcpaa
open Go.RowKit
set_option maxHeartbeats 4000000
set_option maxRecDepth 100000

theorem Cmd.good_of_not_fits {c : Cmd} (h : ¬ c.Fits) : c.good = false := by
  unfold Cmd.good
  rw [decide_eq_false h, Bool.and_false]
theorem Cmd.good_of_not_rise {c : Cmd} (h : Cmd.rise (-1) c.disks = false) : c.good = false := by
  unfold Cmd.good
  rw [h, Bool.false_and]
theorem Cmd.good_of {c : Cmd} (h : Cmd.rise (-1) c.disks = true) (hf : c.Fits) : c.good = true := by
  unfold Cmd.good
  rw [h, decide_eq_true hf]
  rfl
theorem cmd_Good (c : Cmd) (hc : c.Wf) (hn : c.name.length ≤ 9223372036854775807) (hd : c.disks.length ≤ 1000) (dao : Option Addr) (dcap : Nat) (W : World) (hs : Sl W (.slice dao c.disks.length dcap) c.disks.length 1 (i64v c.disks)) :
    Calls Try.prog 11 #[.agg (c.cells dao dcap)] W (Fresh (.bool c.good) W) := by
  obtain ⟨good, hgood⟩ : ∃ g, g = c.good := ⟨_, rfl⟩
  rw [← hgood]
  have G1 : Hid (∀ h : ¬ c.Fits, good = false) := Lib.hid (fun h => by rw [hgood]; exact Cmd.good_of_not_fits h)
  have G2 : Hid (∀ h : Cmd.rise (-1) c.disks = false, good = false) := Lib.hid (fun h => by rw [hgood]; exact Cmd.good_of_not_rise h)
  have G3 : Hid (∀ (h : Cmd.rise (-1) c.disks = true) (hf : c.Fits), good = true) := Lib.hid (fun h hf => by rw [hgood]; exact Cmd.good_of h hf)
  clear hgood
  obtain ⟨kind, client, seq, name, blob, size, sum, disks, pool, vol, blk⟩ := c
  unfold Cmd.Fits at G1 G3
  obtain ⟨o1, o2, o3, o4, o5, o6, o7, o8, o9, o10⟩ := hc
  simp only at o1 o2 o3 o4 o5 o6 o7 o8 o9 o10 hn hd hs G1 G2 G3 ⊢
  unfold Cmd.cells
  simp only
  obtain ⟨dao', dcap', ev, q1, q2, _, hpos⟩ := hs
  cases ev
  unfold maxLen at q2
  have hbx : Blk (W.alloc (.cells #[.int .i64 (kind), .int .i64 (client), .int .i64 (seq), .string (bs name), .int .u64 (blob : Int), .int .i64 (size), .int .u32 (sum : Int), .slice dao disks.length dcap, .int .i64 (pool), .int .i64 (vol), .int .i64 (blk)] 26)) W.heap.size #[.int .i64 (kind), .int .i64 (client), .int .i64 (seq), .string (bs name), .int .u64 (blob : Int), .int .i64 (size), .int .u32 (sum : Int), .slice dao disks.length dcap, .int .i64 (pool), .int .i64 (vol), .int .i64 (blk)] 26 := Blk.new _ _ _
  have hB : Below W.heap.size W (W.alloc (.cells #[.int .i64 (kind), .int .i64 (client), .int .i64 (seq), .string (bs name), .int .u64 (blob : Int), .int .i64 (size), .int .u32 (sum : Int), .slice dao disks.length dcap, .int .i64 (pool), .int .i64 (vol), .int .i64 (blk)] 26)) := (by repeat' (first | exact Below.refl _ _ | assumption | refine Below.setCell ?_ (by first | omega | (simp; done) | (simp; omega)) _ | refine Below.alloc ?_ (by first | omega | (simp; done) | (simp; omega)) _ | refine below_drew ?_ _ | apply Below.drew))
  have hsz : (bs name).size = name.length := rfl
  (go_enter Try.func11, Try.ntmps11)
  go_wp2_with fail
  go_loopw [8] (fun i wr => ∃ j : Nat, j ≤ disks.length ∧ i = .int .i64 (j) ∧ wr = W.alloc (.cells #[.int .i64 (kind), .int .i64 (client), .int .i64 (seq), .string (bs name), .int .u64 (blob : Int), .int .i64 (size), .int .u32 (sum : Int), .slice dao disks.length dcap, .int .i64 (pool), .int .i64 (vol), .int .i64 (blk)] 26) ∧ Hid (Cmd.rise (-1) disks = Cmd.rise (if j = 0 then -1 else disks.getD (j - 1) 0) (disks.drop j)) ∧ Hid (j = 0 ∨ 0 ≤ disks.getD (j - 1) 0)) (fun i _ => disks.length - (intOf i).toNat)
  case atStart => exact ⟨0, by omega, rfl, rfl, Lib.hid rfl, Lib.hid (Or.inl rfl)⟩
  obtain ⟨j, hj, rfl, hw, hR, hP⟩ := hrel
  subst hw
  rcases Nat.lt_or_ge j disks.length with hlt | hge
  · obtain ⟨bb, off, rfl, hb1, hcell⟩ := hpos (by omega)
    have c0 : (W.alloc (.cells #[.int .i64 (kind), .int .i64 (client), .int .i64 (seq), .string (bs name), .int .u64 (blob : Int), .int .i64 (size), .int .u32 (sum : Int), .slice (some ⟨bb, off, none⟩) disks.length dcap, .int .i64 (pool), .int .i64 (vol), .int .i64 (blk)] 26)).cell? ⟨bb, off + j, none⟩ = some (.int .i64 (disks[j])) := (hB.cell (p := ⟨bb, off + j, none⟩) hb1).trans (hcell j (.int .i64 (disks[j])) (by simp [i64v, hlt]))
    have hstep : Hid (∀ p : Int, Cmd.rise p (disks.drop j) = (decide (p < disks[j] ∧ disks[j] < 6) && Cmd.rise disks[j] (disks.drop (j + 1)))) := Lib.hid (fun p => by rw [List.drop_eq_getElem_cons hlt, Cmd.rise])
    have hnext : disks.getD (j + 1 - 1) 0 = disks[j] := by simp [hlt]
    have hprev : 0 < j → (W.alloc (.cells #[.int .i64 (kind), .int .i64 (client), .int .i64 (seq), .string (bs name), .int .u64 (blob : Int), .int .i64 (size), .int .u32 (sum : Int), .slice (some ⟨bb, off, none⟩) disks.length dcap, .int .i64 (pool), .int .i64 (vol), .int .i64 (blk)] 26)).cell? ⟨bb, off + (j - 1), none⟩ = some (.int .i64 (disks.getD (j - 1) 0)) := fun h => (hB.cell (p := ⟨bb, off + (j - 1), none⟩) hb1).trans (hcell (j - 1) _ (by simp [i64v, show j - 1 < disks.length by omega]))
    have Hnext := Lib.hid hnext
    generalize disks[j] = d at *
    clear hcell hpos hnext
    rcases Nat.eq_zero_or_pos j with rfl | hjp
    · rw [Nat.add_zero] at c0
      by_cases hd0 : 0 ≤ d ∧ d < 6
      · obtain ⟨hd0, hd6⟩ := hd0
        go_wp2_with fail
        refine ⟨⟨1, by omega, by go_num, by first | trivial | rfl, Lib.hid ?_, Lib.hid (Or.inr (by rw [Hnext.out]; exact hd0))⟩, by simp [intOf]; omega⟩
        rw [hR.out, if_pos rfl, hstep.out, decide_eq_true (by omega), Bool.true_and, if_neg (by decide), Hnext.out]
      · have hf : Cmd.rise (-1) disks = false := by rw [hR.out, if_pos rfl, hstep.out, decide_eq_false (by omega), Bool.false_and]
        have hg := G2.out hf
        subst hg
        clear hf
        rcases Int.lt_or_le d 0 with hneg | hpos0
        · go_wp2_with fail
          go_ret
          exact ⟨rfl, hB⟩
        · have hd6 : 6 ≤ d := by omega
          go_wp2_with fail
          go_ret
          exact ⟨rfl, hB⟩
    · obtain ⟨k, rfl⟩ : ∃ k, j = k + 1 := ⟨j - 1, by omega⟩
      have c1 := hprev (by omega)
      have hp0 := hP.out.resolve_left (by omega)
      clear hP
      rw [show k + 1 - 1 = k by omega] at c1 hR hp0
      rw [if_neg (by omega)] at hR
      generalize disks.getD k 0 = p at *
      clear hprev
      by_cases hd0 : (0 ≤ d ∧ d < 6) ∧ p < d
      · obtain ⟨⟨hd0, hd6⟩, hpd⟩ := hd0
        go_wp2_with fail
        refine ⟨⟨k + 1 + 1, by omega, by go_num, by first | trivial | rfl, Lib.hid ?_, Lib.hid (Or.inr (by rw [Hnext.out]; exact hd0))⟩, by simp [intOf]; omega⟩
        rw [hR.out, hstep.out, decide_eq_true (by omega), Bool.true_and, if_neg (by omega), Hnext.out]
      · have hf : Cmd.rise (-1) disks = false := by rw [hR.out, hstep.out, decide_eq_false (by omega), Bool.false_and]
        have hg := G2.out hf
        subst hg
        clear hf
        by_cases hneg : d < 0
        · go_wp2_with fail
          go_ret
          exact ⟨rfl, hB⟩
        by_cases hd6 : 6 ≤ d
        · go_wp2_with fail
          go_ret
          exact ⟨rfl, hB⟩
        · have hpd : d ≤ p := by omega
          clear hd0
          go_wp2_with fail
          go_ret
          exact ⟨rfl, hB⟩
  obtain rfl : j = disks.length := by omega
  have hr : Cmd.rise (-1) disks = true := by
    rw [hR.out, List.drop_length]
    rfl
  have G4 : Hid (∀ h : (1 ≤ kind ∧ kind ≤ 14) ∧ (0 ≤ client ∧ client ≤ 1073741824) ∧ (0 ≤ seq ∧ seq ≤ 1073741824) ∧ name.length ≤ 32 ∧ (0 ≤ size ∧ size ≤ 4000) ∧ disks.length ≤ 6 ∧ (0 ≤ pool ∧ pool ≤ 1) ∧ (0 ≤ vol ∧ vol ≤ 11) ∧ (0 ≤ blk ∧ blk ≤ 1073741824), good = true) := Lib.hid (fun h => G3.out hr h)
  clear hR hr hpos G2 G3 hge
  by_cases hf : (1 ≤ kind ∧ kind ≤ 14) ∧ (0 ≤ client ∧ client ≤ 1073741824) ∧ (0 ≤ seq ∧ seq ≤ 1073741824) ∧ name.length ≤ 32 ∧ (0 ≤ size ∧ size ≤ 4000) ∧ disks.length ≤ 6 ∧ (0 ≤ pool ∧ pool ≤ 1) ∧ (0 ≤ vol ∧ vol ≤ 11) ∧ (0 ≤ blk ∧ blk ≤ 1073741824)
  · have hg := G4.out hf
    subst hg
    obtain ⟨⟨_, _⟩, ⟨_, _⟩, ⟨_, _⟩, _, ⟨_, _⟩, _, ⟨_, _⟩, ⟨_, _⟩, ⟨_, _⟩⟩ := hf
    go_wp2_with fail
    go_ret
    exact ⟨rfl, hB⟩
  · have hg := G1.out hf
    subst hg
    have Hf := Lib.hid hf
    clear hf
    go_wp2_with fail
    all_goals first
      | (go_ret; exact ⟨rfl, hB⟩)
      | (go_ret; exact ⟨by simp [show ¬ (blk ≤ 1073741824) from fun h => Hf.out (by refine ⟨⟨?_, ?_⟩, ⟨?_, ?_⟩, ⟨?_, ?_⟩, ?_, ⟨?_, ?_⟩, ?_, ⟨?_, ?_⟩, ⟨?_, ?_⟩, ⟨?_, ?_⟩⟩ <;> omega)], hB⟩)
end Go.Proofs.Ytafdnalanmbcpaa
