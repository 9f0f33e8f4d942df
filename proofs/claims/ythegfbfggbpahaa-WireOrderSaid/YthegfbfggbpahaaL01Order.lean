/- WireOrder. -/
import Derived.Test.YthegfbfggbpahaaLaw01A
set_option linter.unusedSimpArgs false
set_option linter.unusedVariables false
namespace Go.Proofs.Ythegfbfggbpahaa
open Go.RowKit
set_option maxHeartbeats 1000000

namespace Wire
theorem u8_lt (p q r : Nat) (hp : p < 256) (hq : q < 256) (h : p < q) : (UInt8.ofNat p < UInt8.ofNat q) := by
  rw [UInt8.lt_iff_toNat_lt]
  simp [UInt8.toNat_ofNat']
  omega
theorem hi_less (k a c : Nat) (h : a % 2 ^ (7 * (k + 1)) < c % 2 ^ (7 * (k + 1))) : Op.bytesLess (hi a k) (hi c k) = true ∧ Op.bytesLess (hi c k) (hi a k) = false ∧ (hi a k == hi c k) = false ∧ (hi c k == hi a k) = false := by
  induction k with
  | zero =>
    have h1 : a % 128 < c % 128 := h
    have h2 := u8_lt (a % 128) (c % 128) 0 (by omega) (by omega) h1
    have h3 : ¬ UInt8.ofNat (c % 128) < UInt8.ofNat (a % 128) := UInt8.lt_asymm h2
    have h4 : UInt8.ofNat (a % 128) ≠ UInt8.ofNat (c % 128) := fun e => UInt8.lt_irrefl _ (e ▸ h2)
    simp only [hi, Op.bytesLess]
    simp [h2, h3, h4, h4.symm]
  | succ k ih =>
    have e : 2 ^ (7 * (k + 1 + 1)) = 2 ^ (7 * (k + 1)) * 128 := by rw [show 7 * (k + 1 + 1) = 7 * (k + 1) + 7 by omega, Nat.pow_add]
    rw [e, Nat.mod_mul, Nat.mod_mul] at h
    have hM : 0 < 2 ^ (7 * (k + 1)) := Nat.two_pow_pos _
    have ha := Nat.mod_lt a hM
    have hc := Nat.mod_lt c hM
    have t1 := Nat.mod_lt (a / 2 ^ (7 * (k + 1))) (show 0 < 128 by omega)
    have t2 := Nat.mod_lt (c / 2 ^ (7 * (k + 1))) (show 0 < 128 by omega)
    simp only [hi, Op.bytesLess]
    generalize a / 2 ^ (7 * (k + 1)) % 128 = p at *
    generalize c / 2 ^ (7 * (k + 1)) % 128 = q at *
    rcases Nat.lt_trichotomy p q with l | l | l
    · have h2 := u8_lt (p + 128) (q + 128) 0 (by omega) (by omega) (by omega)
      have h3 : ¬ UInt8.ofNat (q + 128) < UInt8.ofNat (p + 128) := UInt8.lt_asymm h2
      have h4 : UInt8.ofNat (p + 128) ≠ UInt8.ofNat (q + 128) := fun e => UInt8.lt_irrefl _ (e ▸ h2)
      generalize UInt8.ofNat (p + 128) = x at *
      generalize UInt8.ofNat (q + 128) = y at *
      simp [h2, h3, h4, h4.symm]
    · subst l
      obtain ⟨i1, i2, i3, i4⟩ := ih (by omega)
      generalize UInt8.ofNat (p + 128) = x at *
      simp at i3 i4
      simp [i1, i2, i3, i4, UInt8.lt_irrefl]
    · exfalso
      have : 2 ^ (7 * (k + 1)) * (q + 1) ≤ 2 ^ (7 * (k + 1)) * p := Nat.mul_le_mul_left _ l
      rw [Nat.mul_add] at this
      omega
theorem grp_mono (a c : Nat) (h : a ≤ c) : grp a ≤ grp c := grp_le a _ (Nat.lt_of_le_of_lt (Nat.div_le_div_right h) (grp_spec c))
theorem grp_top (a : Nat) : a % 2 ^ (7 * (grp a + 1)) = a := by
  refine Nat.mod_eq_of_lt ?_
  have := grp_spec a
  have h := Nat.lt_mul_of_div_lt this (Nat.two_pow_pos _)
  rw [show 7 * (grp a + 1) = 7 * grp a + 7 by omega, Nat.pow_add]
  omega
theorem num_less (a c : Nat) (h : a < c) (hl : (num a).length = (num c).length) : Op.bytesLess (num a) (num c) = true ∧ Op.bytesLess (num c) (num a) = false ∧ (num a == num c) = false ∧ (num c == num a) = false := by
  rw [num_length, num_length] at hl
  have e : grp a = grp c := by omega
  unfold num
  rw [e]
  refine hi_less _ _ _ ?_
  have h1 := grp_top a
  have h2 := grp_top c
  rw [e] at h1
  rw [h1, h2]
  exact h
end Wire

theorem WireOrder_walk (W : World) (v0 v1 : Value) (x0 : (Kd.int .u64).den) (w0 : (Kd.int .u64).Arg W v0 x0) (x1 : (Kd.int .u64).den) (w1 : (Kd.int .u64).Arg W v1 x1) : Calls Try.prog 3 #[v0, v1] W (Done W) := by
  obtain ⟨a, rfl⟩ : ∃ a : Int, a = x0 := ⟨_, rfl⟩
  obtain ⟨c, rfl⟩ : ∃ c : Int, c = x1 := ⟨_, rfl⟩
  obtain ⟨rfl, ha⟩ := w0
  obtain ⟨rfl, hc⟩ := w1
  obtain ⟨ha0, ha1⟩ := wf_u64 ha
  obtain ⟨hc0, hc1⟩ := wf_u64 hc
  obtain ⟨a, rfl⟩ := Int.eq_ofNat_of_zero_le ha0
  obtain ⟨c, rfl⟩ := Int.eq_ofNat_of_zero_le hc0
  have hb1 : Blk ((W.alloc (.cells #[.slice none 0 0] 25)).alloc (.cells #[.slice none 0 0] 25)) W.heap.size #[.slice none 0 0] 25 := (Blk.new _ _ _).alloc _
  have hb2 : Blk ((W.alloc (.cells #[.slice none 0 0] 25)).alloc (.cells #[.slice none 0 0] 25)) (W.heap.size + 1) #[.slice none 0 0] 25 := Blk.new' (by simp)
  have hE : EncV ((W.alloc (.cells #[.slice none 0 0] 25)).alloc (.cells #[.slice none 0 0] 25)) W.heap.size W.heap.size (.slice none 0 0) [] := ⟨hb1, World.ownsRow_nil _ _ _ _, by simp; omega⟩
  have hU := enc_U1 a (by omega) _ _ _ [] (by simp) _ hE
  rw [show ((W.alloc (.cells #[.slice none 0 0] 25)).alloc (.cells #[.slice none 0 0] 25)).heap.size = W.heap.size + 1 + 1 by simp] at hU
  have hB0 : Below W.heap.size W ((W.alloc (.cells #[.slice none 0 0] 25)).alloc (.cells #[.slice none 0 0] 25)) := ((Below.refl _ _).alloc (Nat.le_refl _) _).alloc (by simp) _
  have HU := Lib.hid hU
  have HB0 := Lib.hid hB0
  have HB2 := Lib.hid hb2
  clear hU hB0 hb1 hb2 hE
  (go_enter Try.func3, Try.ntmps3)
  go_wp2_with fail
  refine HU.out.mono ?_; rintro e w1 ⟨rfl, u1, hE1, hO1⟩
  have hb2 : Blk w1 (W.heap.size + 1) #[.slice none 0 0] 25 := HB2.out.keep hO1 (by
    rintro (h | ⟨_, cs, fr, h⟩)
    · omega
    · have h2 := HB2.out
      unfold Blk at h2
      rw [h2] at h
      injection h with h
      injection h with _ h
      exact absurd h (by decide))
  have hB1 := only_below HB0.out hO1 (Nat.le_refl _)
  have hBy := enc_Bytes _ _ _ _ _ hE1
  have HBy := Lib.hid hBy
  have hU := enc_U1 c (by omega) w1.heap.size _ _ [] (by simp) w1 ⟨hb2, World.ownsRow_nil _ _ _ _, Nat.le_refl _⟩
  have HU2 := Lib.hid hU
  clear hU hBy HU HB2
  go_wp2_with fail
  refine HBy.out.mono ?_; rintro e w2 ⟨rfl, rfl⟩
  go_wp2_with fail
  refine HU2.out.mono ?_; rintro e w2 ⟨rfl, u2, hE2, hO2⟩
  have hBy2 := enc_Bytes _ _ _ _ _ hE2
  have HBy2 := Lib.hid hBy2
  have hB2 : Below W.heap.size W w2 := hB1.trans (hO2.below hB1.size (fun k hk e => by have := hB1.size; rcases e with e | ⟨e, _⟩ <;> omega))
  have hawk : ∀ w, Calls Try.prog 9 #[] w (fun e w' => e = .returned (.bool true) ∧ Below w.heap.size w w') := awake_any
  clear hBy2 hB1 HBy HU2
  have hsa : (bs (Wire.num a)).size = (Wire.num a).length := rfl
  have hsc : (bs (Wire.num c)).size = (Wire.num c).length := rfl
  by_cases hlt : c < a
  · have hm := Wire.grp_mono c a (by omega)
    have hla := Wire.num_length a
    have hlc := Wire.num_length c
    by_cases hl : (Wire.num a).length = (Wire.num c).length
    · obtain ⟨o1, o2, o3, o4⟩ := Wire.num_less c a hlt hl.symm
      have hz1 : ¬ (bs (Wire.num c)).size < (bs (Wire.num a)).size := by omega
      have hz2 : (bs (Wire.num c)).size = (bs (Wire.num a)).size := by omega
      clear hsa hsc hla hlc hl
      go_wp2_with fail
      refine HBy2.out.mono ?_; rintro e w3 ⟨rfl, rfl⟩
      go_wp2_with fail
      refine (awake_any _).mono ?_; rintro e w3 ⟨rfl, hB3⟩
      go_wp2_with fail
      all_goals go_ret
      all_goals exact ⟨by simp [o1, o2, o3, o4, hz1, hz2], hB2.trans (hB3.mono hB2.size)⟩
    · have hz1 : (bs (Wire.num c)).size < (bs (Wire.num a)).size := by omega
      clear hsa hsc hla hlc hl
      go_wp2_with fail
      refine HBy2.out.mono ?_; rintro e w3 ⟨rfl, rfl⟩
      go_wp2_with fail
      refine (awake_any _).mono ?_; rintro e w3 ⟨rfl, hB3⟩
      go_wp2_with fail
      all_goals go_ret
      all_goals exact ⟨by simp [hz1], hB2.trans (hB3.mono hB2.size)⟩
  · by_cases heq : a = c
    · subst heq
      go_wp2_with fail
      refine HBy2.out.mono ?_; rintro e w3 ⟨rfl, rfl⟩
      go_wp2_with fail
      refine (awake_any _).mono ?_; rintro e w3 ⟨rfl, hB3⟩
      go_wp2_with fail
      all_goals go_ret
      all_goals exact ⟨by simp, hB2.trans (hB3.mono hB2.size)⟩
    · have heqi : ¬ ((a : Int) = (c : Int)) := by omega
      have hm := Wire.grp_mono a c (by omega)
      have hla := Wire.num_length a
      have hlc := Wire.num_length c
      by_cases hl : (Wire.num a).length = (Wire.num c).length
      · obtain ⟨o1, o2, o3, o4⟩ := Wire.num_less a c (by omega) hl
        have hz1 : ¬ (bs (Wire.num a)).size < (bs (Wire.num c)).size := by omega
        have hz2 : (bs (Wire.num a)).size = (bs (Wire.num c)).size := by omega
        clear hsa hsc hla hlc hl
        go_wp2_with fail
        refine HBy2.out.mono ?_; rintro e w3 ⟨rfl, rfl⟩
        go_wp2_with fail
        refine (awake_any _).mono ?_; rintro e w3 ⟨rfl, hB3⟩
        go_wp2_with fail
        all_goals go_ret
        all_goals exact ⟨by simp [o1, o2, o3, o4, hz1, hz2, heqi], hB2.trans (hB3.mono hB2.size)⟩
      · have hz1 : (bs (Wire.num a)).size < (bs (Wire.num c)).size := by omega
        have hne : (Wire.num a == Wire.num c) = false := by simp; intro e; exact hl (by rw [e])
        clear hsa hsc hla hlc hl
        go_wp2_with fail
        refine HBy2.out.mono ?_; rintro e w3 ⟨rfl, rfl⟩
        go_wp2_with fail
        refine (awake_any _).mono ?_; rintro e w3 ⟨rfl, hB3⟩
        go_wp2_with fail
        all_goals go_ret
        all_goals exact ⟨by simp [hz1, hne, heqi], hB2.trans (hB3.mono hB2.size)⟩
namespace WireOrder
open Go.ChangeShapes Go.WideShapes Go.ChangeAt Go.RowKit
set_option linter.unusedVariables false
theorem own : ownKnob Try.prog.godebug = none := by kernel_rfl
theorem laidOut : laidOutB Try.prog = true := by kernel_rfl
set_option maxRecDepth 100000 in
theorem lifted (os : Os) (started : os.Started) (H : Type) (enc : TypeId × Value → H) :
    ReturnsInHanded {} Try.checked os 3 .any (Rows.wireOrderSpec.pre6 enc Try.prog Try.f3 Rows.wireOrderRow.domain false) (Rows.wireOrderSpec.post enc Try.prog Try.f3 false true false false) := by
  refine returnsInHanded_of_change (C := Try.checked) own started (by kernel_rfl) Try.func3
    (ChangeSpec.witness6 (enc := enc) (C := Try.checked) false ⟨#[], #[.int .u64 0, .int .u64 0], []⟩ 8 (by kernel_rfl) (by kernel_rfl) (by kernel_rfl) (by kernel_rfl)) ?_
  intro W base args ds gs before hval0 hW hcnd _
  have hval : ∀ (j : Nat) t v, Try.f3.params[j]? = some t → args[j]? = some v → Value.okWide Try.prog W .any base t v := hval0
  have hW' := hW
  obtain ⟨p, q, hA0, hV, rfl, hfz, hnd⟩ := hW
  have hA : DataW.TrodAll enc Try.prog W 0 (fun _ => true) true Try.f3.params.toList args.toList ds p := hA0
  rw [Try.params3] at hA hval
  obtain ⟨v0, vs0, d0, ds0, p0, q0, hargs, rfl, rfl, h0, r0⟩ := trodAll_cons hA
  obtain ⟨v1, vs1, d1, ds1, p1, q1, rfl, rfl, rfl, h1, r1⟩ := trodAll_cons r0
  obtain ⟨rfl, rfl, rfl⟩ := trodAll_nil r1
  obtain rfl : args = #[v0, v1] := by cases args; simp_all
  obtain ⟨rfl, rfl⟩ := trodVars_none hV
  have lt0 : ∀ x ∈ p0, x.block < W.heap.size := by obtain ⟨m, hm⟩ := h0; exact DataW.trod_lt m _ _ _ hm
  obtain ⟨x0, w0⟩ := arg_open (Kd.int .u64) h0 (hval 0 _ v0 rfl rfl) (by kernel_rfl)
  have lt1 : ∀ x ∈ p1, x.block < W.heap.size := by obtain ⟨m, hm⟩ := h1; exact DataW.trod_lt m _ _ _ hm
  obtain ⟨x1, w1⟩ := arg_open (Kd.int .u64) h1 (hval 1 _ v1 rfl rfl) (by kernel_rfl)
  clear hA0 hval0
  refine (WireOrder_walk W v0 v1 x0 w0 x1 w1).mono fun e W' ⟨he, bel⟩ => ?_
  subst he
  exact ⟨_, rfl, _, _, _, [], _, [], hW', trodAll_mk1 (shut_bool (by kernel_rfl) _), (trodAll_cons_mk (Below.trod laidOut (by kernel_rfl) (of_decide_eq_true (by kernel_rfl)) h0 bel lt0) (trodAll_cons_mk (Below.trod laidOut (by kernel_rfl) (of_decide_eq_true (by kernel_rfl)) h1 bel lt1) trodAll_mk0)), rfl, bel.frame _, fun h => by cases h⟩

theorem over : Rows.wireOrderRow.holds Try.pinned (OpenSpec.ofChange Rows.wireOrderSpec) :=
  OpenClaim.holds_of_wide 3 Try.f3 rfl rfl rfl rfl rfl rfl rfl ⟨rfl, rfl, rfl, rfl, rfl⟩ rfl rfl rfl rfl rfl (by kernel_rfl) Try.func3 (by kernel_rfl)
    (of_decide_eq_true (by kernel_rfl)) (by unfold Func.isWrapper; rw [if_neg (of_decide_eq_false (by kernel_rfl))]; exact ⟨rfl, rfl⟩)
    (fun os started H enc _ => lifted os started H enc)
/-- THE STATEMENT. -/
theorem proved : Rows.WireOrderSaid := over
#print axioms proved
end WireOrder
end Go.Proofs.Ythegfbfggbpahaa
