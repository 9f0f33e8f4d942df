/- What I, B, S, List and Done of wire's Dec answer, at any bytes. -/
import Derived.Test.YtafdnalanmbcpaaWire6
set_option linter.unusedSimpArgs false
set_option linter.unusedVariables false
namespace Go.Proofs.Ytafdnalanmbcpaa
open Go.RowKit
set_option maxHeartbeats 1000000
set_option maxRecDepth 100000

theorem dec_fail_to (x : Value) (j k kk : Int) (hkk : Hid (kk = if k = 0 then j else k)) (b : Nat) (w : World) (h : Blk w b #[x, .int .i64 (k)] 61) :
    Calls Try.prog 22 #[.pointer (some ⟨b, 0, none⟩), .int .i64 (j)] w (fun e w' => e = .returned (.tuple #[]) ∧ Blk w' b #[x, .int .i64 (kk)] 61 ∧ Only (· = b) w w') := by
  rw [hkk.out]
  exact dec_fail_any x j k b w h

theorem dec_I (most : Int) (hm : -9223372036854775808 ≤ most ∧ most ≤ 9223372036854775807) (l : List UInt8) (hl : l.length ≤ 900000) (k : Int) (b : Nat) (w : World) (h : Blk w b #[.string (bs l), .int .i64 (k)] 61) :
    Calls Try.prog 18 #[.pointer (some ⟨b, 0, none⟩), .int .i64 (most)] w (fun e w' => e = .returned (.int .i64 (((Wire.decI most l k).1 : Nat))) ∧ DecTo w b (Wire.decI most l k).2.1 (Wire.decI most l k).2.2 w') := by
  have hU := dec_U l hl k b w h
  have hlt := Wire.decU_lt l k
  have hlen := Wire.decU_len l k
  unfold Wire.decI
  generalize Wire.decU l k = r at *
  obtain ⟨v, l', k'⟩ := r
  simp only at hU hlt hlen ⊢
  have HU := Lib.hid hU
  clear hU
  by_cases hpos : 0 ≤ most
  · obtain ⟨m', rfl⟩ := Int.eq_ofNat_of_zero_le hpos
    rw [show (m' : Int).toNat = m' from rfl]
    by_cases c : m' < v
    · rw [if_pos c]
      obtain ⟨kk, hkk⟩ : ∃ kk, kk = if k' = 0 then 11 else k' := ⟨_, rfl⟩
      rw [← hkk]
      have Hkk := Lib.hid hkk
      clear hkk
      (go_enter Try.func18, Try.ntmps18)
      go_wp2_with fail
      refine HU.out.mono ?_; rintro e w1 ⟨rfl, hb1, hO1⟩
      have HF := Lib.hid (dec_fail_to _ 11 k' kk Hkk b _ hb1)
      go_wp2_with fail
      refine HF.out.mono ?_; rintro e w2 ⟨rfl, hb2, hO2⟩
      go_wp2_with fail
      go_ret
      exact ⟨rfl, hb2, hO1.trans hO2 (fun _ _ e => e)⟩
    · rw [if_neg c]
      (go_enter Try.func18, Try.ntmps18)
      go_wp2_with fail
      refine HU.out.mono ?_; rintro e w1 ⟨rfl, hb1, hO1⟩
      go_wp2_with fail
      go_ret
      exact ⟨rfl, hb1, hO1⟩
  · rw [show most.toNat = 0 by omega]
    by_cases c : 0 < v
    · rw [if_pos c]
      obtain ⟨kk, hkk⟩ : ∃ kk, kk = if k' = 0 then 11 else k' := ⟨_, rfl⟩
      rw [← hkk]
      have Hkk := Lib.hid hkk
      clear hkk
      (go_enter Try.func18, Try.ntmps18)
      go_wp2_with fail
      refine HU.out.mono ?_; rintro e w1 ⟨rfl, hb1, hO1⟩
      have HF := Lib.hid (dec_fail_to _ 11 k' kk Hkk b _ hb1)
      go_wp2_with fail
      refine HF.out.mono ?_; rintro e w2 ⟨rfl, hb2, hO2⟩
      go_wp2_with fail
      go_ret
      exact ⟨rfl, hb2, hO1.trans hO2 (fun _ _ e => e)⟩
    · rw [if_neg c]
      (go_enter Try.func18, Try.ntmps18)
      go_wp2_with fail
      refine HU.out.mono ?_; rintro e w1 ⟨rfl, hb1, hO1⟩
      go_wp2_with fail
      go_ret
      exact ⟨rfl, hb1, hO1⟩

theorem dec_S (most : Int) (hm : -9223372036854775808 ≤ most ∧ most ≤ 9223372036854775807) (l : List UInt8) (hl : l.length ≤ 900000) (k : Int) (b : Nat) (w : World) (h : Blk w b #[.string (bs l), .int .i64 (k)] 61) :
    Calls Try.prog 19 #[.pointer (some ⟨b, 0, none⟩), .int .i64 (most)] w (fun e w' => e = .returned (.string (bs (Wire.decS most l k).1)) ∧ DecTo w b (Wire.decS most l k).2.1 (Wire.decS most l k).2.2 w') := by
  have HI := Lib.hid (dec_I most hm l hl k b w h)
  have hle := Wire.decI_le most l k
  have hlen := Wire.decI_len most l k
  unfold Wire.decS
  generalize Wire.decI most l k = r at *
  obtain ⟨n, l', k'⟩ := r
  simp only at HI hle hlen ⊢
  have hn63 : n < 2 ^ 63 := by omega
  have e1 : Hid ((bs l').extract 0 n = bs (l'.take n)) := Lib.hid (by rw [extract_bs]; simp [bs_toList])
  have e2 : Hid ((bs l').extract n l'.length = bs (l'.drop n)) := Lib.hid (by rw [extract_bs, List.take_of_length_le (by simp [bs_toList])]; rfl)
  have hsz : (bs l').size = l'.length := rfl
  by_cases hk : k' = 0
  · subst hk
    rw [if_pos rfl]
    by_cases c : l'.length < n
    · rw [if_pos c]
      (go_enter Try.func19, Try.ntmps19)
      go_wp2_with fail
      refine HI.out.mono ?_; rintro e w1 ⟨rfl, hb1, hO1⟩
      have hc01 := hb1.cell 0
      have hc11 := hb1.cell 1
      have hf01 := hb1.frozen 0
      have hf11 := hb1.frozen 1
      simp only [List.getElem?_toArray, List.getElem?_cons_zero, List.getElem?_cons_succ] at hc01 hc11
      have hb2 := hb1.set 1 (.int .i64 (2))
      simp at hb2
      have hc02 := hb2.cell 0
      have hc12 := hb2.cell 1
      have hf02 := hb2.frozen 0
      have hf12 := hb2.frozen 1
      simp only [List.getElem?_toArray, List.getElem?_cons_zero, List.getElem?_cons_succ] at hc02 hc12
      clear hc02 hf02 hf12
      go_wp2_with fail
      go_ret
      exact ⟨rfl, hb2, hO1.setCell _ _ (fun _ => rfl)⟩
    · rw [if_neg c]
      (go_enter Try.func19, Try.ntmps19)
      go_wp2_with fail
      refine HI.out.mono ?_; rintro e w1 ⟨rfl, hb1, hO1⟩
      generalize bs l' = s at *
      have hc01 := hb1.cell 0
      have hc11 := hb1.cell 1
      have hf01 := hb1.frozen 0
      have hf11 := hb1.frozen 1
      simp only [List.getElem?_toArray, List.getElem?_cons_zero, List.getElem?_cons_succ] at hc01 hc11
      have hb2 := hb1.set 0 (.string (bs (l'.drop n)))
      simp at hb2
      go_wp2_with fail
      go_ret
      refine ⟨?_, ?_, ?_⟩
      · simp [e1.out]
      · rw [e2.out]; exact hb2
      · exact hO1.setCell _ _ (fun _ => rfl)
  · rw [if_neg hk]
    have hk1 : (k' == 0) = false := by simpa using hk
    have hk2 : (k' != 0) = true := by simpa using hk
    (go_enter Try.func19, Try.ntmps19)
    go_wp2_with fail
    refine HI.out.mono ?_; rintro e w1 ⟨rfl, hb1, hO1⟩
    have hc01 := hb1.cell 0
    have hc11 := hb1.cell 1
    have hf01 := hb1.frozen 0
    have hf11 := hb1.frozen 1
    simp only [List.getElem?_toArray, List.getElem?_cons_zero, List.getElem?_cons_succ] at hc01 hc11
    go_wp2_with fail
    go_ret
    exact ⟨rfl, hb1, hO1⟩

theorem dec_Done (l : List UInt8) (k : Int) (b : Nat) (w : World) (h : Blk w b #[.string (bs l), .int .i64 (k)] 61) :
    Calls Try.prog 23 #[.pointer (some ⟨b, 0, none⟩)] w (fun e w' => e = .returned (.int .i64 (Wire.decD l k)) ∧ DecTo w b l (Wire.decD l k) w') := by
  unfold Wire.decD
  have HF := Lib.hid (dec_fail_any (.string (bs l)) 3 k b _ h)
  have hc01 := h.cell 0
  have hc11 := h.cell 1
  have hf01 := h.frozen 0
  have hf11 := h.frozen 1
  simp only [List.getElem?_toArray, List.getElem?_cons_zero, List.getElem?_cons_succ] at hc01 hc11
  have hne : (bs l).toList.isEmpty = decide (l = []) := by rw [bs_list]; cases l <;> rfl
  obtain ⟨s, hs⟩ : ∃ s, s = bs l := ⟨_, rfl⟩
  obtain ⟨kk, hkk⟩ : ∃ kk, kk = if l ≠ [] ∧ k = 0 then 3 else k := ⟨_, rfl⟩
  unfold DecTo
  rw [← hs] at HF h hne hc01 ⊢
  rw [← hkk]
  have Hs := Lib.hid hs
  by_cases hl : l = []
  · rw [if_neg (by simp [hl])] at hkk
    subst hkk
    have hne2 : s.toList.isEmpty = true := by rw [hne]; simp [hl]
    clear hne hs
    (go_enter Try.func23, Try.ntmps23)
    go_wp2_with fail
    go_ret
    exact ⟨rfl, h, Only.refl _ _⟩
  · have hne2 : s.toList.isEmpty = false := by rw [hne]; simp [hl]
    have HF2 := Lib.hid (dec_fail_to (.string s) 3 k kk (Lib.hid (by rw [hkk]; simp [hl])) b _ h)
    clear hne hs hkk HF
    (go_enter Try.func23, Try.ntmps23)
    go_wp2_with fail
    refine HF2.out.mono ?_; rintro e w1 ⟨rfl, hb1, hO1⟩
    have hc02 := hb1.cell 0
    have hc12 := hb1.cell 1
    have hf02 := hb1.frozen 0
    have hf12 := hb1.frozen 1
    simp only [List.getElem?_toArray, List.getElem?_cons_zero, List.getElem?_cons_succ] at hc02 hc12
    go_wp2_with fail
    go_ret
    exact ⟨rfl, hb1, hO1⟩
end Go.Proofs.Ytafdnalanmbcpaa
