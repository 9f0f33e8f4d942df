/- The reference's bytes end without a trace; a Thing, and what 'put' writes of it. No condition. -/
import Derived.Test.YthegfbfggbpahaaWireArgs
set_option linter.unusedSimpArgs false
set_option linter.unusedVariables false
namespace Go.Proofs.Ythegfbfggbpahaa
open Go.RowKit
set_option maxHeartbeats 1000000
set_option maxRecDepth 100000

/-- some text of at most n bytes is handed back; nothing that was there has turned. -/
def SomeText (n : Nat) (w : World) (e : Ending) (w' : World) : Prop := ∃ s : ByteArray, e = .returned (.string s) ∧ s.size ≤ n ∧ Below w.heap.size w w'

theorem ref_U (v : Nat) (hv : v < 2 ^ 64) (w : World) : Calls Try.prog 24 #[.int .u64 (v : Int)] w (SomeText 10 w) := by
  have hcell : ∀ (n : Nat) (e : Int), n < 256 → e = (n : Int) → ∀ wx : World, (convert 23 9 (.slice (some ⟨wx.heap.size, 0, none⟩) 1 1)).run Try.prog (wx.alloc (.cells #[.int .u8 e] 5)) = .ok (.string (bs [UInt8.ofNat n])) (wx.alloc (.cells #[.int .u8 e] 5)) := by
    intro n e hn he wx
    refine conv_one Try.underlying23 Try.underlying5 Try.underlying9 _ _ _ ?_
    rw [(Blk.new wx _ _).cell]
    simp [he, Nat.mod_eq_of_lt hn]
  have Hc := Lib.hid hcell
  clear hcell
  (go_enter Try.func24, Try.ntmps24)
  go_wp2_with fail
  rw [Hc.out (v % 128) _ (by omega) (by push_cast; rfl)]
  go_wp2_with fail
  go_loopw [4, 0, 3] (fun i u s wr => ∃ (j x : Nat) (t : ByteArray), j ≤ 9 ∧ i = .int .i64 (j) ∧ u = .int .u64 (x : Int) ∧ x < 2 ^ 64 ∧ s = .string t ∧ t.size ≤ j + 1 ∧ Below w.heap.size w wr) (fun i _ _ _ => 9 - (intOf i).toNat)
  case atStart => exact ⟨0, v / 128, _, by omega, rfl, by push_cast; rfl, by omega, rfl, by simp [bs_size], (Below.refl _ _).alloc (Nat.le_refl _) _⟩
  case round =>
    obtain ⟨j, x, t, hj, rfl, rfl, hx, rfl, ht, hB⟩ := hrel
    by_cases h9 : j < 9
    · by_cases h0 : 0 < x
      · go_wp2_with fail
        rw [Hc.out (128 + x % 128) _ (by omega) (by push_cast; rfl)]
        have hys : (bs [UInt8.ofNat (128 + x % 128)]).size = 1 := rfl
        generalize bs [UInt8.ofNat (128 + x % 128)] = y at *
        go_wp2_with fail
        refine ⟨⟨j + 1, x / 128, _, by omega, by go_num, by push_cast; rfl, by omega, rfl, ?_, hB.alloc hB.size _⟩, by simp [intOf]; omega⟩
        rw [ByteArray.size_append]
        omega
      · go_wp2_with fail
        go_ret
        exact ⟨_, rfl, by omega, hB⟩
    · go_wp2_with fail
      go_ret
      exact ⟨_, rfl, by omega, hB⟩
theorem ref_I (v : Int) (hv : -9223372036854775808 ≤ v ∧ v ≤ 9223372036854775807) (w : World) : Calls Try.prog 25 #[.int .i64 (v)] w (SomeText 10 w) := by
  by_cases h0 : 0 ≤ v
  · obtain ⟨n, rfl⟩ := Int.eq_ofNat_of_zero_le h0
    (go_enter Try.func25, Try.ntmps25)
    go_wp2_with fail
    refine (ref_U n (by omega) w).mono ?_; rintro e w1 ⟨s, rfl, hs, hB⟩
    go_wp2_with fail
    go_ret
    exact ⟨s, rfl, hs, hB⟩
  · (go_enter Try.func25, Try.ntmps25)
    go_wp2_with fail
    refine (ref_U 0 (by omega) w).mono ?_; rintro e w1 ⟨s, rfl, hs, hB⟩
    go_wp2_with fail
    go_ret
    exact ⟨s, rfl, hs, hB⟩
theorem ref_B (x : Bool) (w : World) : Calls Try.prog 26 #[.bool x] w (SomeText 10 w) := by
  cases x
  · (go_enter Try.func26, Try.ntmps26)
    go_wp2_with fail
    go_ret
    exact ⟨_, rfl, by decide, Below.refl _ _⟩
  · (go_enter Try.func26, Try.ntmps26)
    go_wp2_with fail
    go_ret
    exact ⟨_, rfl, by decide, Below.refl _ _⟩
theorem ref_S (s : ByteArray) (hs : s.size ≤ 1000000) (w : World) : Calls Try.prog 27 #[.string s] w (SomeText (10 + s.size) w) := by
  (go_enter Try.func27, Try.ntmps27)
  go_wp2_with fail
  refine (ref_I s.size (by omega) w).mono ?_; rintro e w1 ⟨t, rfl, ht, hB⟩
  go_wp2_with fail
  go_ret
  exact ⟨_, rfl, by rw [ByteArray.size_append]; omega, hB⟩
theorem ref_L (ao : Option Addr) (cap : Nat) (l : List Int) (hl : l.length ≤ 1000) (hb : ∀ x ∈ l, -9223372036854775808 ≤ x ∧ x ≤ 9223372036854775807) (w : World) (h : Sl w (.slice ao l.length cap) l.length 1 (i64v l)) : Calls Try.prog 28 #[.slice ao l.length cap] w (SomeText (10 * l.length + 10) w) := by
  obtain ⟨ao', cap', e, h1, h2, _, hpos⟩ := h
  cases e
  unfold maxLen at h2
  (go_enter Try.func28, Try.ntmps28)
  go_wp2_with fail
  refine (ref_I l.length (by omega) w).mono ?_; rintro e w1 ⟨t, rfl, ht, hB⟩
  go_wp2_with fail
  go_loopw [11, 3] (fun i s wr => ∃ (j : Nat) (t : ByteArray), j ≤ l.length ∧ i = .int .i64 (j) ∧ s = .string t ∧ t.size ≤ 10 * j + 10 ∧ Below w.heap.size w wr) (fun i _ _ => l.length - (intOf i).toNat)
  case atStart => exact ⟨0, t, by omega, rfl, rfl, by omega, hB⟩
  case round =>
    obtain ⟨j, t, hj, rfl, rfl, ht, hB⟩ := hrel
    by_cases hlt : j < l.length
    · obtain ⟨bb, off, rfl, hb1, hcell⟩ := hpos (by omega)
      have hc0 := hcell j (.int .i64 (l[j])) (by simp [i64v, hlt])
      have hc := (hB.cell (p := ⟨bb, off + j, none⟩) hb1).trans hc0
      have hx := hb l[j] (List.getElem_mem _)
      generalize l[j] = x at *
      clear hcell hc0 hpos
      go_wp2_with fail
      refine (ref_I x hx _).mono ?_; rintro e w2 ⟨t2, rfl, ht2, hB2⟩
      go_wp2_with fail
      exact ⟨⟨j + 1, _, by omega, by go_num, rfl, by rw [ByteArray.size_append]; omega, hB.trans (hB2.mono hB.size)⟩, by simp [intOf]; omega⟩
    · obtain rfl : j = l.length := by omega
      go_wp2_with fail
      go_ret
      exact ⟨t, rfl, ht, hB⟩

structure Th where
  kd : Int
  n : Int
  m : Int
  u : Nat
  is : Bool
  s : ByteArray
  ao : Option Addr
  cap : Nat
  l : List Int
def Th.cells (t : Th) : List Value := [.int .i64 (t.kd), .int .i64 (t.n), .int .i64 (t.m), .int .u64 (t.u : Int), .bool t.is, .string t.s, .slice t.ao t.l.length t.cap]
structure Th.Ok (W : World) (t : Th) : Prop where
  kd : -9223372036854775808 ≤ t.kd ∧ t.kd ≤ 9223372036854775807
  n : -9223372036854775808 ≤ t.n ∧ t.n ≤ 9223372036854775807
  m : -9223372036854775808 ≤ t.m ∧ t.m ≤ 9223372036854775807
  u : t.u < 2 ^ 64
  s : t.s.size ≤ maxLen
  l : ∀ x ∈ t.l, -9223372036854775808 ≤ x ∧ x ≤ 9223372036854775807
  sl : Sl W (.slice t.ao t.l.length t.cap) t.l.length 1 (i64v t.l)
abbrev KThing : Kd := .fields (.next (.int .i64) (.next (.int .i64) (.next (.int .i64) (.next (.int .u64) (.next .bool (.next .str (.next (.slice (.int .i64)) .last)))))))
theorem row_things {w : World} {v : Value} {xs : List KThing.den} (h : RdRow w 7 (KThing.Rd w) [v] xs) :
    ∃ ao cap, ∃ ts : List Th, v = .slice ao ts.length cap ∧ ts.length ≤ cap ∧ cap ≤ maxLen ∧ (∀ t ∈ ts, t.Ok w) ∧ (0 < ts.length → ∃ b off, ao = some ⟨b, off, none⟩ ∧ b < w.heap.size ∧
      ∀ (i : Nat) (t : Th), ts[i]? = some t → ∀ (j : Nat) (u : Value), t.cells[j]? = some u → w.cell? ⟨b, off + (i * 7 + j), none⟩ = some u) := by
  obtain ⟨ao, cap, h1, h2, h3, _, h5⟩ := h
  simp only [List.cons.injEq, and_true] at h1
  have hall : ∀ i, i < xs.length → ∃ t : Th, t.Ok w ∧ ∀ b off, ao = some ⟨b, off, none⟩ → ∀ (j : Nat) (u : Value), t.cells[j]? = some u → w.cell? ⟨b, off + (i * 7 + j), none⟩ = some u := by
    intro i hi
    obtain ⟨b, off, e, hb, he⟩ := h5 (by omega)
    obtain ⟨es, _, hc, a0, z0, rfl, _, ⟨rfl, w0⟩, a1, z1, rfl, _, ⟨rfl, w1⟩, a2, z2, rfl, _, ⟨rfl, w2⟩, a3, z3, rfl, _, ⟨rfl, w3⟩, a4, z4, rfl, _, hb4, a5, z5, rfl, _, ⟨rfl, w5⟩, a6, z6, rfl, l6, hr6, rfl⟩ := he i xs[i] (List.getElem?_eq_getElem hi)
    have hr6' := hr6
    obtain ⟨ao6, cap6, h61, _⟩ := hr6
    subst h61
    obtain ⟨ao7, cap7, e7, q1, q2, q3, q4⟩ := sl_i64 hr6'
    cases e7
    have hb4 : a4 = [.bool xs[i].2.2.2.2.1] := hb4
    subst hb4
    refine ⟨⟨xs[i].1, xs[i].2.1, xs[i].2.2.1, (xs[i].2.2.2.1).toNat, xs[i].2.2.2.2.1, xs[i].2.2.2.2.2.1, ao6, cap6, xs[i].2.2.2.2.2.2.1⟩, ⟨wf_i64 w0, wf_i64 w1, wf_i64 w2, ?_, w5, q3, q4⟩, ?_⟩
    · have := wf_u64 w3
      simp only
      omega
    · intro b' off' e' j u hu
      rw [e] at e'
      cases e'
      refine hc j u ?_
      have h3 := wf_u64 w3
      have e3 : (((xs[i].2.2.2.1 : Int).toNat : Nat) : Int) = xs[i].2.2.2.1 := Int.toNat_of_nonneg h3.1
      simp only [Th.cells] at hu
      rw [e3] at hu
      exact hu
  obtain ⟨ts, hl, ht⟩ := list_of_each hall
  refine ⟨ao, cap, ts, by rw [hl]; exact h1, by omega, h3, ?_, fun hp => ?_⟩
  · intro t htm
    obtain ⟨i, hi, rfl⟩ := List.getElem_of_mem htm
    exact (ht i ts[i] (List.getElem?_eq_getElem hi)).1
  · obtain ⟨b, off, e, hb, _⟩ := h5 (by omega)
    exact ⟨b, off, e, hb, fun i t hit => (ht i t hit).2 b off e⟩
end Go.Proofs.Ythegfbfggbpahaa
