/- MeterLost: what is lost stays so, whatever else befalls it. No condition. -/
import Derived.Test.YtjphgomidbldiaaArgs
import Derived.Test.YtjphgomidbldiaaL03A
namespace Go.Proofs.Ytjphgomidbldiaa
open Go.RowKit

set_option maxHeartbeats 1000000 in
theorem MeterLost_walk (W : World) (v0 : Value) (x0 : (Kd.slice (.int .i64)).den) (w0 : (Kd.slice (.int .i64)).Arg W v0 x0) : Calls Try.prog 5 #[v0] W (Done W) := by
  obtain ⟨xs, rfl⟩ : ∃ xs : List Int, xs = x0 := ⟨_, rfl⟩
  obtain ⟨ao, cap, rfl, hlc, hcm, hpos⟩ := row_ints w0
  clear w0
  have hlm : xs.length ≤ 9223372036854775807 := by unfold maxLen at hcm; omega
  generalize hlen : xs.length = len at *
  have Hlen := Lib.hid hlen
  clear hlen
  (go_enter Try.func5, Try.ntmps5)
  go_wp2_with fail
  have hb0 := Blk.new W #[.bool false, .int .i64 (0)] 24
  have hB0 : Below W.heap.size W (W.alloc (.cells #[.bool false, .int .i64 (0)] 24)) := (Below.refl _ _).alloc (Nat.le_refl _) _
  have hz : W.heap.size ≤ W.heap.size := Nat.le_refl _
  refine (lose_blk _ 0 _ _ _ _ hb0 rfl #[.bool true, .int .i64 (0)] rfl).mono ?_; rintro e w1 ⟨rfl, hb1, hk1⟩; have hB1 := below_one hB0 hk1 hz; clear hk1 hb0 hB0
  go_wp2_with fail
  go_loopw [4] (fun i w => ∃ (k : Nat) (f : Int), k ≤ len ∧ i = .int .i64 (k) ∧ Blk w W.heap.size #[.bool true, .int .i64 (f)] 24 ∧ Below W.heap.size W w) (fun i _ => len - (intOf i).toNat)
  case atStart => exact ⟨0, 0, by omega, rfl, hb1, hB1⟩
  case round =>
    obtain ⟨k, f, hk, rfl, hb4, hB4⟩ := hrel
    clear hb1 hB1
    by_cases hlt : k < len ∧ k < 20
    · obtain ⟨h1, h2⟩ := hlt
      obtain ⟨b, off, rfl, hbW, hcell⟩ := hpos (by omega)
      have hx := hcell k (xs[k]'(by have := Hlen.out; omega)) (List.getElem?_eq_getElem _)
      obtain ⟨n, hn⟩ : ∃ n, n = xs[k]'(by have := Hlen.out; omega) := ⟨_, rfl⟩
      rw [← hn] at hx
      have hc := (hB4.cell (p := ⟨b, off + k, none⟩) hbW).trans hx.1
      clear hcell hx hn hpos
      go_wp2_with fail
      refine (fail_blk _ 0 _ _ _ _ n hb4 rfl (failR n) #[.bool true, .int .i64 (failR n)] rfl rfl).mono ?_; rintro e w5 ⟨rfl, hb5, hk5⟩; have hB5 := below_one hB4 hk5 hz; clear hk5 hb4 hB4
      go_wp2_with fail; refine (try_blk _ 0 _ _ _ true (failR n) hb5 rfl rfl (by unfold failR; omega) 14 (failR n) #[.bool true, .int .i64 (failR n)] (by simp [tryR]) rfl).mono ?_; rintro e w6 ⟨rfl, hb6, hk6⟩; have hB6 := below_one hB5 hk6 hz; clear hk6 hb5 hB5
      go_wp2_with fail; refine (lost_blk _ 0 _ _ _ true hb6 rfl).mono ?_; rintro e w7 ⟨rfl, hb7, hk7⟩; have hB7 := below_one hB6 hk7 hz; clear hk7 hb6 hB6
      go_wp2_with fail
      exact ⟨⟨k + 1, failR n, by omega, by go_num, hb7, hB7⟩, by simp [intOf]; omega⟩
    · by_cases h1 : k < len
      · have h2 : 20 ≤ k := by omega
        go_wp2_with fail
        refine (awake_any _).mono ?_; rintro e w2 ⟨rfl, hB5⟩
        go_wp2_with fail
        go_ret
        exact ⟨rfl, hB4.trans (hB5.mono hB4.size)⟩
      · go_wp2_with fail
        refine (awake_any _).mono ?_; rintro e w2 ⟨rfl, hB5⟩
        go_wp2_with fail
        go_ret
        exact ⟨rfl, hB4.trans (hB5.mono hB4.size)⟩
namespace MeterLost
open Go.ChangeShapes Go.WideShapes Go.ChangeAt Go.RowKit
set_option linter.unusedVariables false
theorem own : ownKnob Try.prog.godebug = none := by kernel_rfl
theorem laidOut : laidOutB Try.prog = true := by kernel_rfl
set_option maxRecDepth 100000 in
theorem lifted (os : Os) (started : os.Started) (H : Type) (enc : TypeId × Value → H) :
    ReturnsInHanded {} Try.checked os 5 .any (Rows.meterLostSpec.pre6 enc Try.prog Try.f5 Rows.meterLostRow.domain false) (Rows.meterLostSpec.post enc Try.prog Try.f5 false true false false) := by
  refine returnsInHanded_of_change (C := Try.checked) own started (by kernel_rfl) Try.func5
    (ChangeSpec.witness6 (enc := enc) (C := Try.checked) false ⟨#[], #[.slice none 0 0], []⟩ 8 (by kernel_rfl) (by kernel_rfl) (by kernel_rfl) (by kernel_rfl)) ?_
  intro W base args ds gs before hval0 hW hcnd _
  have hval : ∀ (j : Nat) t v, Try.f5.params[j]? = some t → args[j]? = some v → Value.okWide Try.prog W .any base t v := hval0
  have hW' := hW
  obtain ⟨p, q, hA0, hV, rfl, hfz, hnd⟩ := hW
  have hA : DataW.TrodAll enc Try.prog W 0 (fun _ => true) true Try.f5.params.toList args.toList ds p := hA0
  rw [Try.params5] at hA hval
  obtain ⟨v0, vs0, d0, ds0, p0, q0, hargs, rfl, rfl, h0, r0⟩ := trodAll_cons hA
  obtain ⟨rfl, rfl, rfl⟩ := trodAll_nil r0
  obtain rfl : args = #[v0] := by cases args; simp_all
  obtain ⟨rfl, rfl⟩ := trodVars_none hV
  have lt0 : ∀ x ∈ p0, x.block < W.heap.size := by obtain ⟨m, hm⟩ := h0; exact DataW.trod_lt m _ _ _ hm
  obtain ⟨x0, w0⟩ := arg_open (Kd.slice (.int .i64)) h0 (hval 0 _ v0 rfl rfl) (by kernel_rfl)
  clear hA0 hval0
  refine (MeterLost_walk W v0 x0 w0).mono fun e W' ⟨he, bel⟩ => ?_
  subst he
  exact ⟨_, rfl, _, _, _, [], _, [], hW', trodAll_mk1 (shut_bool (by kernel_rfl) _), (trodAll_cons_mk (Below.trod laidOut (by kernel_rfl) (of_decide_eq_true (by kernel_rfl)) h0 bel lt0) trodAll_mk0), rfl, bel.frame _, fun h => by cases h⟩

theorem over : Rows.meterLostRow.holds Try.pinned (OpenSpec.ofChange Rows.meterLostSpec) :=
  OpenClaim.holds_of_wide 5 Try.f5 rfl rfl rfl rfl rfl rfl rfl ⟨rfl, rfl, rfl, rfl, rfl⟩ rfl rfl rfl rfl rfl (by kernel_rfl) Try.func5 (by kernel_rfl)
    (of_decide_eq_true (by kernel_rfl)) (by unfold Func.isWrapper; rw [if_neg (of_decide_eq_false (by kernel_rfl))]; exact ⟨rfl, rfl⟩)
    (fun os started H enc _ => lifted os started H enc)
/-- THE STATEMENT. -/
theorem proved : Rows.MeterLostSaid := over
#print axioms proved
end MeterLost
end Go.Proofs.Ytjphgomidbldiaa
