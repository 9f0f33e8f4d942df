/- What the reference's Same answers of any two. No condition. -/
import Derived.Test.YtafdnalanmbcpaaL12Arg
set_option linter.unusedSimpArgs false
set_option linter.unusedVariables false
namespace Go.Proofs.Ytafdnalanmbcpaa
open Go.RowKit
set_option maxHeartbeats 8000000
set_option maxRecDepth 100000

theorem ref_Same (r : Bool) (x y : Cmd) (hr : r = true ↔ x = y) (ao1 ao2 : Option Addr) (cap1 cap2 : Nat) (W : World) (h1 : Sl W (.slice ao1 x.disks.length cap1) x.disks.length 1 (i64v x.disks)) (h2 : Sl W (.slice ao2 y.disks.length cap2) y.disks.length 1 (i64v y.disks)) :
    Calls Try.prog 14 #[.agg (x.cells ao1 cap1), .agg (y.cells ao2 cap2)] W (Fresh (.bool r) W) := by
  obtain ⟨k1, c1, s1, n1, b1, z1, u1, d1, p1, v1, t1⟩ := x
  obtain ⟨k2, c2, s2, n2, b2, z2, u2, d2, p2, v2, t2⟩ := y
  unfold Cmd.cells
  simp only [Cmd.mk.injEq] at h1 h2 hr ⊢
  obtain ⟨_, _, ev, q1, q2, _, hp1⟩ := h1
  cases ev
  obtain ⟨_, _, ev, q3, q4, _, hp2⟩ := h2
  cases ev
  unfold maxLen at q2 q4
  have hB : Below W.heap.size W ((W.alloc (.cells #[.int .i64 (k1), .int .i64 (c1), .int .i64 (s1), .string (bs n1), .int .u64 (b1 : Int), .int .i64 (z1), .int .u32 (u1 : Int), .slice ao1 d1.length cap1, .int .i64 (p1), .int .i64 (v1), .int .i64 (t1)] 35)).alloc (.cells #[.int .i64 (k2), .int .i64 (c2), .int .i64 (s2), .string (bs n2), .int .u64 (b2 : Int), .int .i64 (z2), .int .u32 (u2 : Int), .slice ao2 d2.length cap2, .int .i64 (p2), .int .i64 (v2), .int .i64 (t2)] 35)) := (by repeat' (first | exact Below.refl _ _ | assumption | refine Below.setCell ?_ (by first | omega | (simp; done) | (simp; omega)) _ | refine Below.alloc ?_ (by first | omega | (simp; done) | (simp; omega)) _ | refine below_drew ?_ _ | apply Below.drew))
  have Hr := Lib.hid hr
  clear hr
  by_cases hd : d1 = d2
  · subst hd
    (go_enter Try.func14, Try.ntmps14)
    go_wp2_with fail
    go_loopw [16] (fun i wr => ∃ j m : Nat, j ≤ d1.length ∧ i = .int .i64 (j) ∧ wr = ((W.alloc (.cells #[.int .i64 (k1), .int .i64 (c1), .int .i64 (s1), .string (bs n1), .int .u64 (b1 : Int), .int .i64 (z1), .int .u32 (u1 : Int), .slice ao1 d1.length cap1, .int .i64 (p1), .int .i64 (v1), .int .i64 (t1)] 35)).alloc (.cells #[.int .i64 (k2), .int .i64 (c2), .int .i64 (s2), .string (bs n2), .int .u64 (b2 : Int), .int .i64 (z2), .int .u32 (u2 : Int), .slice ao2 d1.length cap2, .int .i64 (p2), .int .i64 (v2), .int .i64 (t2)] 35)).drewN m) (fun i _ => d1.length - (intOf i).toNat)
    case atStart => exact ⟨0, 0, by omega, rfl, rfl⟩
    obtain ⟨j, m, hj, rfl, hw⟩ := hrel
    have ha : Blk wr W.heap.size #[.int .i64 (k1), .int .i64 (c1), .int .i64 (s1), .string (bs n1), .int .u64 (b1 : Int), .int .i64 (z1), .int .u32 (u1 : Int), .slice ao1 d1.length cap1, .int .i64 (p1), .int .i64 (v1), .int .i64 (t1)] 35 := by rw [hw]; exact (Blk.new _ _ _).alloc _
    have hb : Blk wr (W.heap.size + 1) #[.int .i64 (k2), .int .i64 (c2), .int .i64 (s2), .string (bs n2), .int .u64 (b2 : Int), .int .i64 (z2), .int .u32 (u2 : Int), .slice ao2 d1.length cap2, .int .i64 (p2), .int .i64 (v2), .int .i64 (t2)] 35 := by rw [hw]; exact Blk.new' (by simp)
    have hBr : Below W.heap.size W wr := by rw [hw]; exact below_drew hB m
    have Hw := Lib.hid hw
    clear hw
    rcases Nat.lt_or_ge j d1.length with hlt | hge
    · obtain ⟨bb1, off1, rfl, hb1, hc1⟩ := hp1 (by omega)
      obtain ⟨bb2, off2, rfl, hb2, hc2⟩ := hp2 (by omega)
      have e1 := (hBr.cell (p := ⟨bb1, off1 + j, none⟩) hb1).trans (hc1 j (.int .i64 (d1[j])) (by simp [i64v, hlt]))
      have e2 := (hBr.cell (p := ⟨bb2, off2 + j, none⟩) hb2).trans (hc2 j (.int .i64 (d1[j])) (by simp [i64v, hlt]))
      have a7 := ha.cell 7
      have b7 := hb.cell 7
      simp only [List.getElem?_toArray, List.getElem?_cons_zero, List.getElem?_cons_succ] at a7 b7
      generalize d1[j] = d at *
      have hjl : (j : Int) < d1.length := by omega
      clear hc1 hc2 hp1 hp2 ha hb
      go_wp2_with fail
      go_quiet (fail)
      go_wp2_with fail
      exact ⟨⟨j + 1, _, by omega, by go_num, by rw [Hw.out, World.drewN_drewN]⟩, by simp [intOf]; omega⟩
    obtain rfl : j = d1.length := by omega
    have hae := fun k => ha.cell k
    have a0 := ha.cell 0
    have a1 := ha.cell 1
    have a2 := ha.cell 2
    have a3 := ha.cell 3
    have a4 := ha.cell 4
    have a5 := ha.cell 5
    have a6 := ha.cell 6
    have a8 := ha.cell 8
    have a9 := ha.cell 9
    have a10 := ha.cell 10
    have e0 := hb.cell 0
    have e1 := hb.cell 1
    have e2 := hb.cell 2
    have e3 := hb.cell 3
    have e4 := hb.cell 4
    have e5 := hb.cell 5
    have e6 := hb.cell 6
    have e8 := hb.cell 8
    have e9 := hb.cell 9
    have e10 := hb.cell 10
    simp only [List.getElem?_toArray, List.getElem?_cons_zero, List.getElem?_cons_succ] at a0 a1 a2 a3 a4 a5 a6 a8 a9 a10 e0 e1 e2 e3 e4 e5 e6 e8 e9 e10
    clear hae ha hb hp1 hp2 hge
    by_cases hab : k1 = k2 ∧ c1 = c2 ∧ s1 = s2 ∧ n1 = n2 ∧ b1 = b2 ∧ z1 = z2 ∧ u1 = u2 ∧ p1 = p2 ∧ v1 = v2 ∧ t1 = t2
    · obtain ⟨rfl, rfl, rfl, rfl, rfl, rfl, rfl, rfl, rfl, rfl⟩ := hab
      obtain rfl : r = true := Hr.out.2 (by simp)
      go_wp2_with fail
      go_ret
      exact ⟨by simp, hBr⟩
    · obtain rfl : r = false := by
        cases r with
        | false => rfl
        | true =>
          obtain ⟨f1, f2, f3, f4, f5, f6, f7, _, f8, f9, f10⟩ := Hr.out.1 rfl
          exact absurd ⟨f1, f2, f3, f4, f5, f6, f7, f8, f9, f10⟩ hab
      have Hab := Lib.hid hab
      clear hab
      go_wp2_with fail
      all_goals first
        | (go_ret; exact ⟨rfl, hBr⟩)
        | (go_ret; refine ⟨?_, hBr⟩; simp; intro ht; apply Hab.out; simp_all; omega)
  · obtain rfl : r = false := by
      cases r with
      | false => rfl
      | true =>
        obtain ⟨_, _, _, _, _, _, _, f, _⟩ := Hr.out.1 rfl
        exact absurd f hd
    by_cases hlen : d1.length = d2.length
    · generalize hn1 : d1.length = n at *
      generalize hn2 : d2.length = m2 at *
      subst hlen
      have Hn1 := Lib.hid hn1
      have Hn2 := Lib.hid hn2
      clear hn1 hn2
      (go_enter Try.func14, Try.ntmps14)
      go_wp2_with fail
      go_loopw [16] (fun i wr => ∃ j m : Nat, j ≤ n ∧ i = .int .i64 (j) ∧ Hid (d1.take j = d2.take j) ∧ wr = ((W.alloc (.cells #[.int .i64 (k1), .int .i64 (c1), .int .i64 (s1), .string (bs n1), .int .u64 (b1 : Int), .int .i64 (z1), .int .u32 (u1 : Int), .slice ao1 n cap1, .int .i64 (p1), .int .i64 (v1), .int .i64 (t1)] 35)).alloc (.cells #[.int .i64 (k2), .int .i64 (c2), .int .i64 (s2), .string (bs n2), .int .u64 (b2 : Int), .int .i64 (z2), .int .u32 (u2 : Int), .slice ao2 n cap2, .int .i64 (p2), .int .i64 (v2), .int .i64 (t2)] 35)).drewN m) (fun i _ => n - (intOf i).toNat)
      case atStart => exact ⟨0, 0, by omega, rfl, Lib.hid rfl, rfl⟩
      obtain ⟨j, m, hj, rfl, htk, hw⟩ := hrel
      have ha : Blk wr W.heap.size #[.int .i64 (k1), .int .i64 (c1), .int .i64 (s1), .string (bs n1), .int .u64 (b1 : Int), .int .i64 (z1), .int .u32 (u1 : Int), .slice ao1 n cap1, .int .i64 (p1), .int .i64 (v1), .int .i64 (t1)] 35 := by rw [hw]; exact (Blk.new _ _ _).alloc _
      have hb : Blk wr (W.heap.size + 1) #[.int .i64 (k2), .int .i64 (c2), .int .i64 (s2), .string (bs n2), .int .u64 (b2 : Int), .int .i64 (z2), .int .u32 (u2 : Int), .slice ao2 n cap2, .int .i64 (p2), .int .i64 (v2), .int .i64 (t2)] 35 := by rw [hw]; exact Blk.new' (by simp)
      have hBr : Below W.heap.size W wr := by rw [hw]; exact below_drew hB m
      have Hw := Lib.hid hw
      clear hw
      rcases Nat.lt_or_ge j n with hltn | hge
      · have hlt : j < d1.length := by have := Hn1.out; omega
        have hlt2 : j < d2.length := by have := Hn2.out; omega
        obtain ⟨bb1, off1, rfl, hb1, hc1⟩ := hp1 (by omega)
        obtain ⟨bb2, off2, rfl, hb2, hc2⟩ := hp2 (by omega)
        have e1 := (hBr.cell (p := ⟨bb1, off1 + j, none⟩) hb1).trans (hc1 j (.int .i64 (d1[j])) (by simp [i64v, hlt]))
        have e2 := (hBr.cell (p := ⟨bb2, off2 + j, none⟩) hb2).trans (hc2 j (.int .i64 (d2[j])) (by simp [i64v, hlt2]))
        have a7 := ha.cell 7
        have b7 := hb.cell 7
        simp only [List.getElem?_toArray, List.getElem?_cons_zero, List.getElem?_cons_succ] at a7 b7
        have hs1 := Lib.hid (take_snoc' d1 j hlt)
        have hs2 := Lib.hid (take_snoc' d2 j hlt2)
        generalize d1[j] = x at *
        generalize d2[j] = y at *
        have hjl : (j : Int) < n := by omega
        clear hc1 hc2 hp1 hp2 ha hb hlt hlt2
        by_cases hxy : x = y
        · subst hxy
          go_wp2_with fail
          go_quiet (fail)
          go_wp2_with fail
          exact ⟨⟨j + 1, _, by omega, by go_num, Lib.hid (by rw [hs1.out, hs2.out, htk.out]), by rw [Hw.out, World.drewN_drewN]⟩, by simp [intOf]; omega⟩
        · have hxy2 : (x == y) = false := by simpa using hxy
          have hxy3 : (x != y) = true := by simpa using hxy
          go_wp2_with fail
          go_quiet (fail)
          go_wp2_with fail
          go_ret
          exact ⟨rfl, below_drew hBr _⟩
      · exfalso
        apply hd
        have h := htk.out
        rw [List.take_of_length_le (by have := Hn1.out; omega), List.take_of_length_le (by have := Hn2.out; omega)] at h
        exact h
    · have hl1 : ¬ ((d1.length : Int) = (d2.length : Int)) := by omega
      have hl2 : (((d1.length : Int)) != (d2.length : Int)) = true := by simpa using hl1
      have hl3 : (((d1.length : Int)) == (d2.length : Int)) = false := by simpa using hl1
      (go_enter Try.func14, Try.ntmps14)
      go_wp2_with fail
      go_ret
      exact ⟨rfl, hB⟩
end Go.Proofs.Ytafdnalanmbcpaa
