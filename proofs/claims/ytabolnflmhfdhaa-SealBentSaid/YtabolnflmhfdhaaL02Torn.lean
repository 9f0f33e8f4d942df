/- SealTorn: frames that are cut off are scanned to those that are whole. No condition. -/
import Derived.Test.YtabolnflmhfdhaaL02Joined
import Derived.Test.YtabolnflmhfdhaaSealPure2
set_option linter.unusedSimpArgs false
set_option linter.unusedVariables false
namespace Go.Proofs.Ytabolnflmhfdhaa
open Go.RowKit

theorem ends_pl (l : List (List UInt8)) (i : Nat) (h : i < l.length) : (endsT l)[i]? = some (Seal.pl l (i + 1)) := by
  simp [endsT, Seal.pl, h]

set_option maxHeartbeats 4000000 in
theorem SealTorn_walk (W : World) (v0 v1 : Value) (x0 : (Kd.slice .str).den) (w0 : (Kd.slice .str).Arg W v0 x0) (x1 : (Kd.int .i64).den) (w1 : (Kd.int .i64).Arg W v1 x1) :
    Calls Try.prog 5 #[v0, v1] W (Done W) := by
  obtain ⟨xs, rfl⟩ : ∃ xs : List ByteArray, xs = x0 := ⟨_, rfl⟩
  obtain ⟨cut, rfl⟩ : ∃ n : Int, n = x1 := ⟨_, rfl⟩
  obtain ⟨ao, ca, rfl, hla, hsa, sla, hpa⟩ := strs_arg w0
  obtain ⟨rfl, wc⟩ := w1
  clear w0 wc
  have La := Lib.hid (fun w h => laid_any (.slice ao xs.length ca) xs.length xs w h hsa)
  have Sa := Lib.hid sla
  have Ha := Lib.hid hsa
  clear sla hsa
  have za := frames_small (laidT xs) (laid_small xs)
  have LA := Lib.hid (laid_length xs)
  have lA6 : (laidT xs).length ≤ 6 := by rw [LA.out]; omega
  have hz1 : (bs (Seal.frames (laidT xs))).size ≤ 348 := by rw [bs_size]; omega
  have EA : Hid (∀ i (h : i < (laidT xs).length) (h2 : i < xs.length), (laidT xs)[i] = xs[i].data.toList.take 50) := fun i h h2 => by simp [laidT]
  clear za
  (go_enter Try.func5, Try.ntmps5)
  go_wp2_with fail
  refine (La.out _ (by exact Sa.out _ (Below.refl _ _))).mono ?_; rintro e w1 ⟨x, rfl, ho1, hB1⟩
  go_wp2_with fail
  refine (awake_any _).mono ?_; rintro e w4 ⟨rfl, hb⟩
  have hB4 := hB1.trans (hb.mono hB1.size)
  have hx := own_keep ho1 (only_of_below hb (fun _ => False)) (fun _ _ e => e)
  clear hB1 hb ho1
  obtain ⟨axo, cx, rfl, _, _, _, hxc⟩ := Sl.of_own hx
  by_cases c : 0 ≤ cut ∧ cut ≤ (bs (Seal.frames (laidT xs))).size
  · obtain ⟨c1, c2⟩ := c
    obtain ⟨k, rfl⟩ := Int.eq_ofNat_of_zero_le c1
    have hw := Seal.whole_le (laidT xs) k
    have hiff := Lib.hid (Seal.whole_iff (laidT xs) k)
    have hscan := seal_scan ((bs (Seal.frames (laidT xs))).extract 0 k) (by simp; omega)
    have hsr : Seal.scan ((bs (Seal.frames (laidT xs))).extract 0 k).data.toList = ((laidT xs).take (Seal.whole (laidT xs) k), Seal.pl (laidT xs) (Seal.whole (laidT xs) k)) := by
      rw [extract_bs, bs_toList, bs_toList, Nat.sub_zero, List.drop_zero, Seal.scan_torn _ (fun a h => Nat.le_trans (laid_small xs a h) (by decide))]
    unfold ScanP at hscan
    rw [hsr] at hscan
    have Hscan := Lib.hid hscan
    have HS := Lib.hid hsr
    clear hscan hsr
    go_wp2_with fail
    generalize hWn : Seal.whole (laidT xs) k = Wn at *
    have HWn := Lib.hid hWn
    clear hWn
    go_loop [7, 8, 34] (fun wv av i => ∃ j : Nat, j ≤ (laidT xs).length ∧ i = .int .i64 (j) ∧ wv = .int .i64 ((min j Wn : Nat)) ∧ av = .int .i64 ((Seal.pl (laidT xs) (min j Wn) : Nat))) (fun _ _ i => (laidT xs).length - (intOf i).toNat)
    case atStart => exact ⟨0, by omega, rfl, by simp, by simp [Seal.pl_zero]⟩
    case round =>
      obtain ⟨j, hj, rfl, rfl, rfl⟩ := hrel
      by_cases hlj : j < (laidT xs).length
      · obtain ⟨b, off, rfl, hbW, hcx⟩ := hxc (by omega)
        have c3 := hcx j (.int .i64 ((Seal.pl (laidT xs) (j + 1) : Nat))) (by rw [List.getElem?_map, ends_pl _ _ hlj]; rfl)
        have hi := hiff.out j hlj
        by_cases d : j < Wn
        · have e1 : min j Wn = j := by omega
          have e2 : min (j + 1) Wn = j + 1 := by omega
          have h9 : Seal.pl (laidT xs) (j + 1) ≤ k := hi.2 d
          rw [e1]
          have E2 := Lib.hid e2
          clear hi hiff hcx hxc hpa e1 e2
          generalize hp1 : Seal.pl (laidT xs) (j + 1) = p1 at *
          have HP1 := Lib.hid hp1
          clear hp1
          go_wp2_with fail
          exact ⟨⟨j + 1, by omega, by go_num, by rw [E2.out]; go_num, by rw [E2.out, HP1.out]⟩, by simp [intOf]; omega⟩
        · have e1 : min j Wn = Wn := by omega
          have e2 : min (j + 1) Wn = Wn := by omega
          have h9 : k < Seal.pl (laidT xs) (j + 1) := by omega
          rw [e1]
          have E2 := Lib.hid e2
          clear hi hiff hcx hxc hpa e1 e2
          generalize Seal.pl (laidT xs) (j + 1) = p1 at *
          go_wp2_with fail
          exact ⟨⟨j + 1, by omega, by go_num, by rw [E2.out], by rw [E2.out]⟩, by simp [intOf]; omega⟩
      · have e1 : min j Wn = Wn := by omega
        have hwx : Wn ≤ xs.length := by have := LA.out; omega
        have e3 : ((laidT xs).take Wn).length = Wn := by rw [List.length_take]; omega
        have ET : Hid (∀ i (h : i < Wn) (h2 : i < xs.length), ((laidT xs).take Wn)[i]? = some (xs[i].data.toList.take 50)) := fun i h h2 => by
          rw [List.getElem?_take, if_pos h, List.getElem?_eq_getElem (by omega), EA.out i (by omega) h2]
        rw [e1]
        rw [e3] at Hscan
        generalize (laidT xs).take Wn = T at *
        generalize Seal.pl (laidT xs) Wn = pw at *
        clear e1 hiff e3
        go_wp2_with fail
        refine (Hscan.out _).mono ?_; rintro e w5 ⟨l, rfl, hol, hb⟩
        have hB5 := hB4.trans (hb.mono hB4.size)
        obtain ⟨alo, cl, rfl, _, _, _, hlc⟩ := Sl.of_own hol
        clear hb hol
        go_wp2_with fail
        go_loopw [63] (fun i wr => ∃ j m : Nat, j ≤ Wn ∧ i = .int .i64 (j) ∧ wr = w5.drewN m) (fun i _ => Wn - (intOf i).toNat)
        case atStart => exact ⟨0, 0, by omega, rfl, rfl⟩
        case round =>
          obtain ⟨i, m, hi, rfl, hw⟩ := hrel
          have Hw := Lib.hid hw
          clear hw
          by_cases hli : i < Wn
          · have hix : i < xs.length := by omega
            obtain ⟨b, off, rfl, hbW, hca⟩ := hpa (by omega)
            have c1 : wr.cell? ⟨b, off + i, none⟩ = some (.string xs[i]) := by rw [Hw.out]; exact (hB5.cell (p := ⟨b, off + i, none⟩) hbW).trans (hca i xs[i] (List.getElem?_eq_getElem hix))
            obtain ⟨bl, ol, rfl, _, hcl⟩ := hlc (by omega)
            have c2 : wr.cell? ⟨bl, ol + i, none⟩ = some (.string (bs (xs[i].data.toList.take 50))) := by rw [Hw.out]; exact hcl i _ (by simp [strs, ET.out i hli hix])
            have cut := Lib.hid (cut_any xs[i] 50 50 rfl (bs (xs[i].data.toList.take 50)) rfl (Ha.out _ (List.getElem_mem hix)))
            generalize bs (xs[i].data.toList.take 50) = t at *
            generalize xs[i] = sx at *
            have i1 : (i : Int) < (Wn : Int) := by omega
            have i2 : (i : Int) < xs.length := by omega
            clear hca hcl hpa hlc hxc
            go_wp2_with fail
            go_quiet ((go_at_call 9; exact quiet_same (cut.out _)))
            go_wp2_with fail
            exact ⟨⟨i + 1, _, by omega, by go_num, by rw [Hw.out, World.drewN_drewN]⟩, by simp [intOf]; omega⟩
          · go_wp2_with fail
            go_ret
            exact ⟨rfl, by rw [Hw.out]; exact below_drew hB5 _⟩
  · by_cases d : cut < 0
    · go_wp2_with fail
      refine (awake_any _).mono ?_; rintro e w5 ⟨rfl, hb⟩
      have hB5 := hB4.trans (hb.mono hB4.size)
      go_wp2_with fail
      go_ret
      exact ⟨rfl, hB5⟩
    · have d2 : ((bs (Seal.frames (laidT xs))).size : Int) < cut := by omega
      go_wp2_with fail
      refine (awake_any _).mono ?_; rintro e w5 ⟨rfl, hb⟩
      have hB5 := hB4.trans (hb.mono hB4.size)
      go_wp2_with fail
      go_ret
      exact ⟨rfl, hB5⟩
namespace SealTorn
open Go.ChangeShapes Go.WideShapes Go.ChangeAt Go.RowKit
set_option linter.unusedVariables false
theorem own : ownKnob Try.prog.godebug = none := by kernel_rfl
theorem laidOut : laidOutB Try.prog = true := by kernel_rfl
set_option maxRecDepth 100000 in
theorem lifted (os : Os) (started : os.Started) (H : Type) (enc : TypeId × Value → H) :
    ReturnsInHanded {} Try.checked os 5 .any (Rows.sealTornSpec.pre6 enc Try.prog Try.f5 Rows.sealTornRow.domain false) (Rows.sealTornSpec.post enc Try.prog Try.f5 false true false false) := by
  refine returnsInHanded_of_change (C := Try.checked) own started (by kernel_rfl) Try.func5
    (ChangeSpec.witness6 (enc := enc) (C := Try.checked) false ⟨#[], #[.slice none 0 0, .int .i64 0], []⟩ 8 (by kernel_rfl) (by kernel_rfl) (by kernel_rfl) (by kernel_rfl)) ?_
  intro W base args ds gs before hval0 hW hcnd _
  have hval : ∀ (j : Nat) t v, Try.f5.params[j]? = some t → args[j]? = some v → Value.okWide Try.prog W .any base t v := hval0
  have hW' := hW
  obtain ⟨p, q, hA0, hV, rfl, hfz, hnd⟩ := hW
  have hA : DataW.TrodAll enc Try.prog W 0 (fun _ => true) true Try.f5.params.toList args.toList ds p := hA0
  rw [Try.params5] at hA hval
  obtain ⟨v0, vs0, d0, ds0, p0, q0, hargs, rfl, rfl, h0, r0⟩ := trodAll_cons hA
  obtain ⟨v1, vs1, d1, ds1, p1, q1, rfl, rfl, rfl, h1, r1⟩ := trodAll_cons r0
  obtain ⟨rfl, rfl, rfl⟩ := trodAll_nil r1
  obtain rfl : args = #[v0, v1] := by cases args; simp_all
  obtain ⟨rfl, rfl⟩ := trodVars_none hV
  have lt0 : ∀ x ∈ p0, x.block < W.heap.size := by obtain ⟨m, hm⟩ := h0; exact DataW.trod_lt m _ _ _ hm
  obtain ⟨x0, w0⟩ := arg_open (Kd.slice .str) h0 (hval 0 _ v0 rfl rfl) (by kernel_rfl)
  have lt1 : ∀ x ∈ p1, x.block < W.heap.size := by obtain ⟨m, hm⟩ := h1; exact DataW.trod_lt m _ _ _ hm
  obtain ⟨x1, w1⟩ := arg_open (Kd.int .i64) h1 (hval 1 _ v1 rfl rfl) (by kernel_rfl)
  clear hA0 hval0
  refine (SealTorn_walk W v0 v1 x0 w0 x1 w1).mono fun e W' ⟨he, bel⟩ => ?_
  subst he
  exact ⟨_, rfl, _, _, _, [], _, [], hW', trodAll_mk1 (shut_bool (by kernel_rfl) _), (trodAll_cons_mk (Below.trod laidOut (by kernel_rfl) (of_decide_eq_true (by kernel_rfl)) h0 bel lt0) (trodAll_cons_mk (Below.trod laidOut (by kernel_rfl) (of_decide_eq_true (by kernel_rfl)) h1 bel lt1) trodAll_mk0)), rfl, bel.frame _, fun h => by cases h⟩

theorem over : Rows.sealTornRow.holds Try.pinned (OpenSpec.ofChange Rows.sealTornSpec) :=
  OpenClaim.holds_of_wide 5 Try.f5 rfl rfl rfl rfl rfl rfl rfl ⟨rfl, rfl, rfl, rfl, rfl⟩ rfl rfl rfl rfl rfl (by kernel_rfl) Try.func5 (by kernel_rfl)
    (of_decide_eq_true (by kernel_rfl)) (by unfold Func.isWrapper; rw [if_neg (of_decide_eq_false (by kernel_rfl))]; exact ⟨rfl, rfl⟩)
    (fun os started H enc _ => lifted os started H enc)
/-- THE STATEMENT. -/
theorem proved : Rows.SealTornSaid := over
#print axioms proved
end SealTorn
end Go.Proofs.Ytabolnflmhfdhaa
