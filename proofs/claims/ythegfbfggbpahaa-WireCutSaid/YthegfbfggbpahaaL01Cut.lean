/- The bytes of a text that are cut off lack bytes: the statement WireCut holds of all arguments. No condition. -/
import Derived.Test.YthegfbfggbpahaaWire7
import Derived.Test.YthegfbfggbpahaaLaw01A
set_option linter.unusedSimpArgs false
set_option linter.unusedVariables false
namespace Go.Proofs.Ythegfbfggbpahaa
open Go.RowKit
set_option maxHeartbeats 1000000
set_option maxRecDepth 100000

theorem WireCut_walk (W : World) (v0 v1 : Value) (x0 : Kd.str.den) (w0 : Kd.str.Arg W v0 x0) (x1 : (Kd.int .i64).den) (w1 : (Kd.int .i64).Arg W v1 x1) : Calls Try.prog 5 #[v0, v1] W (Done W) := by
  obtain ⟨s, rfl⟩ : ∃ s : ByteArray, s = x0 := ⟨_, rfl⟩
  obtain ⟨c, rfl⟩ : ∃ c : Int, c = x1 := ⟨_, rfl⟩
  obtain ⟨rfl, hs⟩ := w0
  obtain ⟨rfl, hc⟩ := w1
  obtain ⟨hc0, hc1⟩ := wf_i64 hc
  have HC := Lib.hid (law_Cut s (by unfold maxLen at hs; omega) 200 (by omega) W)
  obtain ⟨t, ht⟩ : ∃ t, t = bs (s.data.toList.take 200) := ⟨_, rfl⟩
  rw [← ht] at HC
  have htl : t.size ≤ 200 := by rw [ht, bs_size]; simp; omega
  clear ht
  have hE0 : EncV (W.alloc (.cells #[.slice none 0 0] 25)) W.heap.size W.heap.size (.slice none 0 0) [] := ⟨Blk.new _ _ _, World.ownsRow_nil _ _ _ _, by simp⟩
  have hS := enc_S [t] (by simp; omega) W.heap.size W.heap.size _ [] (by simp) _ _ (hE0.alloc (.cells #[.string t] 9)) (sl_lit1 (cs := strv [t]) 1 rfl (by omega)) (apart_lit hE0.blk.lt (by decide))
  rw [show ([] : List UInt8) ++ Wire.texts [t] = Wire.num t.data.toList.length ++ t.data.toList by simp [Wire.texts, Wire.text], show (W.alloc (.cells #[.slice none 0 0] 25)).heap.size = W.heap.size + 1 by simp] at hS
  have HS := Lib.hid hS
  have HE0 := Lib.hid hE0
  have hl1 : t.data.toList.length ≤ 200 := by simpa using htl
  have hl10 := Wire.num_le t.data.toList.length (by omega)
  have hcut := fun j hj => Wire.decS_cut 200 t.data.toList (by omega) (by omega) j hj
  generalize hx : Wire.num t.data.toList.length ++ t.data.toList = x at *
  have hxl : x.length ≤ 210 := by rw [← hx]; simp only [List.length_append]; omega
  have hsz : (bs x).size = x.length := rfl
  have Hcut := Lib.hid hcut
  clear hS hE0 hx hcut hl10 hl1
  (go_enter Try.func5, Try.ntmps5)
  go_wp2_with fail
  refine HC.out.mono ?_; rintro e w1 ⟨rfl, rfl⟩
  go_wp2_with fail
  refine HS.out.mono ?_; rintro e w2 ⟨rfl, hto2⟩
  obtain ⟨v2, hE2, hO2⟩ := hto2.unalloc
  have hB2 : Below W.heap.size W w2 := only_below ((Below.refl _ _).alloc (Nat.le_refl _) _) hO2 (Nat.le_refl _)
  go_wp2_with fail
  refine (enc_Bytes _ _ _ _ _ hE2).mono ?_; rintro e w3 ⟨rfl, rfl⟩
  go_wp2_with fail
  refine (awake_any _).mono ?_; rintro e w3 ⟨rfl, hB3⟩
  have hB3' : Below W.heap.size W w3 := hB2.trans (hB3.mono hB2.size)
  by_cases hneg : c < 0
  · go_wp2_with fail
    refine (awake_any _).mono ?_; rintro e w4 ⟨rfl, hB4⟩
    go_wp2_with fail
    go_ret
    exact ⟨rfl, hB3'.trans (hB4.mono hB3'.size)⟩
  · obtain ⟨n, rfl⟩ := Int.eq_ofNat_of_zero_le (by omega : 0 ≤ c)
    by_cases hge : x.length ≤ n
    · go_wp2_with fail
      refine (awake_any _).mono ?_; rintro e w4 ⟨rfl, hB4⟩
      go_wp2_with fail
      go_ret
      exact ⟨rfl, hB3'.trans (hB4.mono hB3'.size)⟩
    · obtain ⟨q1, q2⟩ := Hcut.out n (by omega)
      have he : Hid ((bs x).extract 0 n = bs (x.take n)) := Lib.hid (by rw [extract_bs]; simp [bs_toList])
      generalize bs x = y at *
      go_wp2_with fail
      rw [he.out]
      refine (dec_From _ _).mono ?_; rintro e w4 ⟨rfl, rfl⟩
      have hb4 := Blk.new w3 #[.string (bs (x.take n)), .int .i64 (0)] 55
      have hD := dec_S 200 (by omega) (x.take n) (by simp; omega) 0 _ _ hb4
      generalize Wire.decS 200 (x.take n) 0 = r at *
      obtain ⟨r1, r2, r3⟩ := r
      simp only at q1 q2 hD
      subst q1 q2
      have HD := Lib.hid hD
      clear hD
      go_wp2_with fail
      refine HD.out.mono ?_; rintro e w5 ⟨rfl, hb5, hO5⟩
      have hne : (bs []).toList.isEmpty = true := by rw [bs_list]; rfl
      generalize bs [] = y at *
      go_wp2_with fail
      refine (dec_Err _ _ _ _ hb5).mono ?_; rintro e w6 ⟨rfl, rfl⟩
      go_wp2_with fail
      go_ret
      refine ⟨rfl, ?_⟩
      refine below_one (hB3'.alloc hB3'.size _) hO5 hB3'.size
namespace WireCut
open Go.ChangeShapes Go.WideShapes Go.ChangeAt Go.RowKit
set_option linter.unusedVariables false
theorem own : ownKnob Try.prog.godebug = none := by kernel_rfl
theorem laidOut : laidOutB Try.prog = true := by kernel_rfl
set_option maxRecDepth 100000 in
theorem lifted (os : Os) (started : os.Started) (H : Type) (enc : TypeId × Value → H) :
    ReturnsInHanded {} Try.checked os 5 .any (Rows.wireCutSpec.pre6 enc Try.prog Try.f5 Rows.wireCutRow.domain false) (Rows.wireCutSpec.post enc Try.prog Try.f5 false true false false) := by
  refine returnsInHanded_of_change (C := Try.checked) own started (by kernel_rfl) Try.func5
    (ChangeSpec.witness6 (enc := enc) (C := Try.checked) false ⟨#[], #[.string ⟨#[]⟩, .int .i64 0], []⟩ 8 (by kernel_rfl) (by kernel_rfl) (by kernel_rfl) (by kernel_rfl)) ?_
  intro W base args ds gs before hval0 hW hcnd _
  have hval : ∀ (j : Nat) t v, Try.f5.params[j]? = some t → args[j]? = some v → Value.okWide Try.prog W .any base t v := hval0
  have hW' := hW
  obtain ⟨p, q, hA0, hV, rfl, hfz, hnd⟩ := hW
  have hA : DataW.TrodAll enc Try.prog W 0 (fun _ => true) true Try.f5.params.toList args.toList ds p := hA0
  rw [Try.params5] at hA hval
  obtain ⟨v0, vs0, d0, ds0, p0, q0, hargs, rfl, rfl, h0, r0⟩ := trodAll_cons hA
  obtain ⟨v1, vs1, d1, ds1, p1, q1, rfl, rfl, rfl, h1, r1⟩ := trodAll_cons r0
  obtain ⟨rfl, rfl, rfl⟩ := trodAll_nil r1
  obtain rfl : args = #[v0, v1] := by cases args; simp_all
  obtain ⟨rfl, rfl⟩ := trodVars_none hV
  have lt0 : ∀ x ∈ p0, x.block < W.heap.size := by obtain ⟨m, hm⟩ := h0; exact DataW.trod_lt m _ _ _ hm
  obtain ⟨x0, w0⟩ := arg_open (Kd.str) h0 (hval 0 _ v0 rfl rfl) (by kernel_rfl)
  have lt1 : ∀ x ∈ p1, x.block < W.heap.size := by obtain ⟨m, hm⟩ := h1; exact DataW.trod_lt m _ _ _ hm
  obtain ⟨x1, w1⟩ := arg_open (Kd.int .i64) h1 (hval 1 _ v1 rfl rfl) (by kernel_rfl)
  clear hA0 hval0
  refine (WireCut_walk W v0 v1 x0 w0 x1 w1).mono fun e W' ⟨he, bel⟩ => ?_
  subst he
  exact ⟨_, rfl, _, _, _, [], _, [], hW', trodAll_mk1 (shut_bool (by kernel_rfl) _), (trodAll_cons_mk (Below.trod laidOut (by kernel_rfl) (of_decide_eq_true (by kernel_rfl)) h0 bel lt0) (trodAll_cons_mk (Below.trod laidOut (by kernel_rfl) (of_decide_eq_true (by kernel_rfl)) h1 bel lt1) trodAll_mk0)), rfl, bel.frame _, fun h => by cases h⟩

theorem over : Rows.wireCutRow.holds Try.pinned (OpenSpec.ofChange Rows.wireCutSpec) :=
  OpenClaim.holds_of_wide 5 Try.f5 rfl rfl rfl rfl rfl rfl rfl ⟨rfl, rfl, rfl, rfl, rfl⟩ rfl rfl rfl rfl rfl (by kernel_rfl) Try.func5 (by kernel_rfl)
    (of_decide_eq_true (by kernel_rfl)) (by unfold Func.isWrapper; rw [if_neg (of_decide_eq_false (by kernel_rfl))]; exact ⟨rfl, rfl⟩)
    (fun os started H enc _ => lifted os started H enc)
/-- THE STATEMENT. -/
theorem proved : Rows.WireCutSaid := over
#print axioms proved
end WireCut
end Go.Proofs.Ythegfbfggbpahaa
