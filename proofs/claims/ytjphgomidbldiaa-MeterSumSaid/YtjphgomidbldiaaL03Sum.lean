/- MeterSum: numbers are added in any order. No condition. -/
import Derived.Test.YtjphgomidbldiaaArgs
import Derived.Test.YtjphgomidbldiaaL03A
namespace Go.Proofs.Ytjphgomidbldiaa
open Go.RowKit

theorem rev_take (xs : List Int) (m k : Nat) (hm : m ≤ xs.length) (hk : k < m) : (xs.take m).reverse.take (k + 1) = (xs.take m).reverse.take k ++ [xs[m - 1 - k]'(by omega)] := by
  have hl : k < (xs.take m).reverse.length := by simp; omega
  rw [take_snoc' _ k hl]
  congr 2
  rw [List.getElem_reverse]
  simp [List.getElem_take, Nat.min_eq_left hm]

theorem ei_int : EI Try.prog 29 3 (.int .i64 0) 1 8 := EI.mk' Try.underlying29 (by kernel_rfl) rfl (by decide)

set_option maxHeartbeats 1000000 in
theorem MeterSum_walk (W : World) (v0 : Value) (x0 : (Kd.slice (.int .i64)).den) (w0 : (Kd.slice (.int .i64)).Arg W v0 x0) : Calls Try.prog 7 #[v0] W (Done W) := by
  obtain ⟨xs, rfl⟩ : ∃ xs : List Int, xs = x0 := ⟨_, rfl⟩
  obtain ⟨ao, cap, rfl, hlc, hcm, hpos⟩ := row_ints w0
  clear w0
  have hlm : xs.length ≤ 9223372036854775807 := by unfold maxLen at hcm; omega
  have hcm2 : cap ≤ 9223372036854775807 := by unfold maxLen at hcm; omega
  generalize hlen : xs.length = len at *
  have Hlen := Lib.hid hlen
  clear hlen
  by_cases c : len ≤ 20
  · (go_enter Try.func7, Try.ntmps7)
    go_wp2_with fail
    go_loopw [3, 4] (fun v i wr => ∃ k : Nat, k ≤ len ∧ i = .int .i64 ((len : Int) - 1 - k) ∧ wr.ownsRow W.heap.size 3 1 v k (((xs.take len).reverse.take k).map (.int .i64)) ∧ Below W.heap.size W wr) (fun _ i _ => (intOf i + 1).toNat)
    case atStart => exact ⟨0, by omega, by first | go_num | rfl | simp, World.ownsRow_lit _ #[] 0 (Nat.le_refl _) (by decide) rfl, (Below.refl _ _).alloc (Nat.le_refl _) _⟩
    case round =>
      obtain ⟨k, hk, rfl, hown, hB⟩ := hrel
      by_cases hlt : k < len
      · obtain ⟨b, off, rfl, hbW, hcell⟩ := hpos (by omega)
        have hx := hcell (len - 1 - k) (xs[len - 1 - k]'(by have := Hlen.out; omega)) (List.getElem?_eq_getElem _)
        generalize hn : xs[len - 1 - k]'(by have := Hlen.out; omega) = n at *
        have Hn := Lib.hid hn
        have hc := (hB.cell (p := ⟨b, off + (len - 1 - k), none⟩) hbW).trans hx.1
        clear hcell hx hn hpos
        go_wp2_with (at_builtin; refine wpl_app rfl rfl ei_int W.heap.size rfl (hown.alloc _) [.int .i64 (n)] rfl rfl (Blk.new _ _ _) rfl (by omega) (by unfold maxLen; omega) (by have := hB.size; simp; omega) ?_; intro v' w1 hown1 hk1)
        refine ⟨⟨k + 1, by omega, by go_num, ?_, below_many (hB.alloc hB.size _) hk1 (own_ge hown)⟩, by simp [intOf]; omega⟩
        rw [rev_take xs len k (by have := Hlen.out; omega) hlt, List.map_append, Hn.out]
        exact hown1
      · obtain rfl : len = k := by omega
        have hrev : (xs.take len).reverse.take len = (xs.take len).reverse := List.take_of_length_le (by simp; omega)
        rw [hrev] at hown
        have Hpos := Lib.hid hpos
        clear hpos hrev
        go_wp2_with fail
        refine (awake_any _).mono ?_; rintro e w2 ⟨rfl, hB2⟩
        have hsl : ∀ w', Below W.heap.size W w' → Sl w' (.slice ao len cap) len 1 ((xs.take len).map (.int .i64)) := by
          intro w' hB'
          refine ⟨ao, cap, rfl, by omega, hcm, by have := Hlen.out; simp; omega, fun hp => ?_⟩
          obtain ⟨b, off, e, hb, hc⟩ := Hpos.out (by omega)
          refine ⟨b, off, e, Nat.lt_of_lt_of_le hb hB'.size, fun j u hu => ?_⟩
          rw [(hB'.cell (p := ⟨b, off + j, none⟩) hb)]
          simp only [List.getElem?_map, Option.map_eq_some_iff] at hu
          obtain ⟨x, hx, rfl⟩ := hu
          rw [List.getElem?_take] at hx
          split at hx
          · exact (hc j x hx).1
          · cases hx
        have HS := Lib.hid hsl
        clear hsl
        have hB3 := hB.trans (hB2.mono hB.size)
        have ho2 := own_keep hown (only_of_below hB2 (fun _ => False)) (fun _ _ e => e)
        clear hB hB2 hown
        go_wp2_with fail
        refine (meter_sum _ len (xs.take len) _ (HS.out _ (by exact hB3))).mono ?_; rintro e w3 ⟨d1, rfl, rfl⟩
        go_wp2_with fail
        refine (meter_sum _ len (xs.take len).reverse _ (by exact Sl.of_own ho2)).mono ?_; rintro e w3 ⟨d2, rfl, rfl⟩
        have e1 : sumR (xs.take len).reverse = sumR (xs.take len) := by rw [sumR_eq, sumR_eq, totR_reverse]
        rw [e1]
        have hbd := sumR_bd (xs.take len)
        generalize hs : sumR (xs.take len) = s at *
        have Hs := Lib.hid hs
        clear hs e1
        go_wp2_with fail
        refine (meter_sum _ len (xs.take len) _ (HS.out _ (by exact below_drew hB3 _))).mono ?_; rintro e w3 ⟨d3, rfl, rfl⟩
        rw [Hs.out]
        go_wp2_with fail
        have e2 : sumR [s, -5] = s := by rw [sumR_eq]; simp only [totR, List.foldr]; omega
        refine (meter_sum _ 2 [s, -5] _ (by exact Sl.lit (Blk.new _ _ _) (by decide) rfl)).mono ?_; rintro e w3 ⟨d4, rfl, rfl⟩
        rw [e2]
        clear e2
        go_wp2_with fail
        refine (meter_sum _ len (xs.take len) _ (HS.out _ (by exact below_drew ((below_drew hB3 _).alloc hB3.size _) _))).mono ?_; rintro e w3 ⟨d5, rfl, rfl⟩
        rw [Hs.out]
        go_wp2_with fail
        go_ret
        exact ⟨rfl, below_drew ((below_drew hB3 _).alloc hB3.size _) _⟩
  · have c2 : 20 < len := by omega
    (go_enter Try.func7, Try.ntmps7)
    go_wp2_with fail
    go_loopw [3, 4] (fun v i wr => ∃ k : Nat, k ≤ 20 ∧ i = .int .i64 ((20 : Int) - 1 - k) ∧ wr.ownsRow W.heap.size 3 1 v k (((xs.take 20).reverse.take k).map (.int .i64)) ∧ Below W.heap.size W wr) (fun _ i _ => (intOf i + 1).toNat)
    case atStart => exact ⟨0, by omega, by first | go_num | rfl | simp, World.ownsRow_lit _ #[] 0 (Nat.le_refl _) (by decide) rfl, (Below.refl _ _).alloc (Nat.le_refl _) _⟩
    case round =>
      obtain ⟨k, hk, rfl, hown, hB⟩ := hrel
      by_cases hlt : k < 20
      · obtain ⟨b, off, rfl, hbW, hcell⟩ := hpos (by omega)
        have hx := hcell (20 - 1 - k) (xs[20 - 1 - k]'(by have := Hlen.out; omega)) (List.getElem?_eq_getElem _)
        generalize hn : xs[20 - 1 - k]'(by have := Hlen.out; omega) = n at *
        have Hn := Lib.hid hn
        have hc := (hB.cell (p := ⟨b, off + (20 - 1 - k), none⟩) hbW).trans hx.1
        clear hcell hx hn hpos
        go_wp2_with (at_builtin; refine wpl_app rfl rfl ei_int W.heap.size rfl (hown.alloc _) [.int .i64 (n)] rfl rfl (Blk.new _ _ _) rfl (by omega) (by unfold maxLen; omega) (by have := hB.size; simp; omega) ?_; intro v' w1 hown1 hk1)
        refine ⟨⟨k + 1, by omega, by go_num, ?_, below_many (hB.alloc hB.size _) hk1 (own_ge hown)⟩, by simp [intOf]; omega⟩
        rw [rev_take xs 20 k (by have := Hlen.out; omega) hlt, List.map_append, Hn.out]
        exact hown1
      · obtain rfl : 20 = k := by omega
        have hrev : (xs.take 20).reverse.take 20 = (xs.take 20).reverse := List.take_of_length_le (by simp; omega)
        rw [hrev] at hown
        have Hpos := Lib.hid hpos
        clear hpos hrev
        go_wp2_with fail
        refine (awake_any _).mono ?_; rintro e w2 ⟨rfl, hB2⟩
        have hsl : ∀ w', Below W.heap.size W w' → Sl w' (.slice ao 20 cap) 20 1 ((xs.take 20).map (.int .i64)) := by
          intro w' hB'
          refine ⟨ao, cap, rfl, by omega, hcm, by have := Hlen.out; simp; omega, fun hp => ?_⟩
          obtain ⟨b, off, e, hb, hc⟩ := Hpos.out (by omega)
          refine ⟨b, off, e, Nat.lt_of_lt_of_le hb hB'.size, fun j u hu => ?_⟩
          rw [(hB'.cell (p := ⟨b, off + j, none⟩) hb)]
          simp only [List.getElem?_map, Option.map_eq_some_iff] at hu
          obtain ⟨x, hx, rfl⟩ := hu
          rw [List.getElem?_take] at hx
          split at hx
          · exact (hc j x hx).1
          · cases hx
        have HS := Lib.hid hsl
        clear hsl
        have hB3 := hB.trans (hB2.mono hB.size)
        have ho2 := own_keep hown (only_of_below hB2 (fun _ => False)) (fun _ _ e => e)
        clear hB hB2 hown
        go_wp2_with fail
        refine (meter_sum _ 20 (xs.take 20) _ (HS.out _ (by exact hB3))).mono ?_; rintro e w3 ⟨d1, rfl, rfl⟩
        go_wp2_with fail
        refine (meter_sum _ 20 (xs.take 20).reverse _ (by exact Sl.of_own ho2)).mono ?_; rintro e w3 ⟨d2, rfl, rfl⟩
        have e1 : sumR (xs.take 20).reverse = sumR (xs.take 20) := by rw [sumR_eq, sumR_eq, totR_reverse]
        rw [e1]
        have hbd := sumR_bd (xs.take 20)
        generalize hs : sumR (xs.take 20) = s at *
        have Hs := Lib.hid hs
        clear hs e1
        go_wp2_with fail
        refine (meter_sum _ 20 (xs.take 20) _ (HS.out _ (by exact below_drew hB3 _))).mono ?_; rintro e w3 ⟨d3, rfl, rfl⟩
        rw [Hs.out]
        go_wp2_with fail
        have e2 : sumR [s, -5] = s := by rw [sumR_eq]; simp only [totR, List.foldr]; omega
        refine (meter_sum _ 2 [s, -5] _ (by exact Sl.lit (Blk.new _ _ _) (by decide) rfl)).mono ?_; rintro e w3 ⟨d4, rfl, rfl⟩
        rw [e2]
        clear e2
        go_wp2_with fail
        refine (meter_sum _ 20 (xs.take 20) _ (HS.out _ (by exact below_drew ((below_drew hB3 _).alloc hB3.size _) _))).mono ?_; rintro e w3 ⟨d5, rfl, rfl⟩
        rw [Hs.out]
        go_wp2_with fail
        go_ret
        exact ⟨rfl, below_drew ((below_drew hB3 _).alloc hB3.size _) _⟩
namespace MeterSum
open Go.ChangeShapes Go.WideShapes Go.ChangeAt Go.RowKit
set_option linter.unusedVariables false
theorem own : ownKnob Try.prog.godebug = none := by kernel_rfl
theorem laidOut : laidOutB Try.prog = true := by kernel_rfl
set_option maxRecDepth 100000 in
theorem lifted (os : Os) (started : os.Started) (H : Type) (enc : TypeId × Value → H) :
    ReturnsInHanded {} Try.checked os 7 .any (Rows.meterSumSpec.pre6 enc Try.prog Try.f7 Rows.meterSumRow.domain false) (Rows.meterSumSpec.post enc Try.prog Try.f7 false true false false) := by
  refine returnsInHanded_of_change (C := Try.checked) own started (by kernel_rfl) Try.func7
    (ChangeSpec.witness6 (enc := enc) (C := Try.checked) false ⟨#[], #[.slice none 0 0], []⟩ 8 (by kernel_rfl) (by kernel_rfl) (by kernel_rfl) (by kernel_rfl)) ?_
  intro W base args ds gs before hval0 hW hcnd _
  have hval : ∀ (j : Nat) t v, Try.f7.params[j]? = some t → args[j]? = some v → Value.okWide Try.prog W .any base t v := hval0
  have hW' := hW
  obtain ⟨p, q, hA0, hV, rfl, hfz, hnd⟩ := hW
  have hA : DataW.TrodAll enc Try.prog W 0 (fun _ => true) true Try.f7.params.toList args.toList ds p := hA0
  rw [Try.params7] at hA hval
  obtain ⟨v0, vs0, d0, ds0, p0, q0, hargs, rfl, rfl, h0, r0⟩ := trodAll_cons hA
  obtain ⟨rfl, rfl, rfl⟩ := trodAll_nil r0
  obtain rfl : args = #[v0] := by cases args; simp_all
  obtain ⟨rfl, rfl⟩ := trodVars_none hV
  have lt0 : ∀ x ∈ p0, x.block < W.heap.size := by obtain ⟨m, hm⟩ := h0; exact DataW.trod_lt m _ _ _ hm
  obtain ⟨x0, w0⟩ := arg_open (Kd.slice (.int .i64)) h0 (hval 0 _ v0 rfl rfl) (by kernel_rfl)
  clear hA0 hval0
  refine (MeterSum_walk W v0 x0 w0).mono fun e W' ⟨he, bel⟩ => ?_
  subst he
  exact ⟨_, rfl, _, _, _, [], _, [], hW', trodAll_mk1 (shut_bool (by kernel_rfl) _), (trodAll_cons_mk (Below.trod laidOut (by kernel_rfl) (of_decide_eq_true (by kernel_rfl)) h0 bel lt0) trodAll_mk0), rfl, bel.frame _, fun h => by cases h⟩

theorem over : Rows.meterSumRow.holds Try.pinned (OpenSpec.ofChange Rows.meterSumSpec) :=
  OpenClaim.holds_of_wide 7 Try.f7 rfl rfl rfl rfl rfl rfl rfl ⟨rfl, rfl, rfl, rfl, rfl⟩ rfl rfl rfl rfl rfl (by kernel_rfl) Try.func7 (by kernel_rfl)
    (of_decide_eq_true (by kernel_rfl)) (by unfold Func.isWrapper; rw [if_neg (of_decide_eq_false (by kernel_rfl))]; exact ⟨rfl, rfl⟩)
    (fun os started H enc _ => lifted os started H enc)
/-- THE STATEMENT. -/
theorem proved : Rows.MeterSumSaid := over
#print axioms proved
end MeterSum
end Go.Proofs.Ytjphgomidbldiaa
