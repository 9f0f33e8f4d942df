/- SealJoined: what is in two rows of frames, one behind the other, is what is in both. No condition. -/
import Derived.Test.YtabolnflmhfdhaaL02Laid
set_option linter.unusedSimpArgs false
set_option linter.unusedVariables false
namespace Go.Proofs.Ytabolnflmhfdhaa
open Go.RowKit

/-- an argument of texts, in any later world -/
theorem strs_arg {W : World} {v : Value} {xs : List ByteArray} (h : RdRow W 1 (Kd.str.Rd W) [v] xs) :
    ∃ ao cap, v = .slice ao xs.length cap ∧ xs.length ≤ 9223372036854775807 ∧ (∀ x ∈ xs, x.size ≤ maxLen) ∧ (∀ w, Below W.heap.size W w → Sl w (.slice ao xs.length cap) xs.length 1 (xs.map .string)) ∧
      (0 < xs.length → ∃ b off, ao = some ⟨b, off, none⟩ ∧ b < W.heap.size ∧ ∀ (i : Nat) (x : ByteArray), xs[i]? = some x → W.cell? ⟨b, off + i, none⟩ = some (.string x)) := by
  obtain ⟨ao, cap, rfl, hlc, hcm, hpos⟩ := row_strs h
  refine ⟨ao, cap, rfl, by unfold maxLen at hcm; omega, ?_, ?_, ?_⟩
  · intro x hx
    obtain ⟨i, hi, rfl⟩ := List.getElem_of_mem hx
    obtain ⟨_, _, _, _, h⟩ := hpos (by omega)
    exact (h i _ (List.getElem?_eq_getElem hi)).2
  · intro w' hB'
    refine ⟨ao, cap, rfl, by omega, hcm, by simp, fun hp => ?_⟩
    obtain ⟨b, off, e, hb, hc⟩ := hpos (by omega)
    refine ⟨b, off, e, Nat.lt_of_lt_of_le hb hB'.size, fun j u hu => ?_⟩
    rw [(hB'.cell (p := ⟨b, off + j, none⟩) hb)]
    simp only [List.getElem?_map, Option.map_eq_some_iff] at hu
    obtain ⟨x, hx, rfl⟩ := hu
    exact (hc j x hx).1
  · intro hp
    obtain ⟨b, off, e, hb, hc⟩ := hpos hp
    exact ⟨b, off, e, hb, fun i x hx => (hc i x hx).1⟩

theorem scan_two (A B : List (List UInt8)) (ha : ∀ a ∈ A, a.length ≤ 50) (hb : ∀ a ∈ B, a.length ≤ 50) : Seal.scan (Seal.frames A ++ Seal.frames B) = (A ++ B, (Seal.frames A).length + (Seal.frames B).length) := by
  rw [Seal.scan_frames A _ (fun a h => Nat.le_trans (ha a h) (by decide))]
  have e : Seal.scan (Seal.frames B) = (B, (Seal.frames B).length) := by
    have h := Seal.scan_frames B [] (fun a h => Nat.le_trans (hb a h) (by decide))
    have e0 : Seal.scan [] = ([], 0) := by decide
    rw [List.append_nil, e0] at h
    simpa using h
  rw [e]

set_option maxHeartbeats 4000000 in
theorem SealJoined_walk (W : World) (v0 v1 : Value) (x0 : (Kd.slice .str).den) (w0 : (Kd.slice .str).Arg W v0 x0) (x1 : (Kd.slice .str).den) (w1 : (Kd.slice .str).Arg W v1 x1) :
    Calls Try.prog 7 #[v0, v1] W (Done W) := by
  obtain ⟨xs, rfl⟩ : ∃ xs : List ByteArray, xs = x0 := ⟨_, rfl⟩
  obtain ⟨ys, rfl⟩ : ∃ ys : List ByteArray, ys = x1 := ⟨_, rfl⟩
  obtain ⟨ao, ca, rfl, hla, hsa, sla, hpa⟩ := strs_arg w0
  obtain ⟨bo, cb, rfl, hlb, hsb, slb, hpb⟩ := strs_arg w1
  clear w0 w1
  have La := Lib.hid (fun w h => laid_any (.slice ao xs.length ca) xs.length xs w h hsa)
  have Lb := Lib.hid (fun w h => laid_any (.slice bo ys.length cb) ys.length ys w h hsb)
  have Sa := Lib.hid sla
  have Sb := Lib.hid slb
  have Ha := Lib.hid hsa
  have Hb := Lib.hid hsb
  clear sla slb hsa hsb
  have za := frames_small (laidT xs) (laid_small xs)
  have zb := frames_small (laidT ys) (laid_small ys)
  have lA := laid_length xs
  have lB := laid_length ys
  have hz1 : (bs (Seal.frames (laidT xs))).size ≤ 348 := by rw [bs_size]; omega
  have hz2 : (bs (Seal.frames (laidT ys))).size ≤ 348 := by rw [bs_size]; omega
  have hscan := seal_scan (bs (Seal.frames (laidT xs)) ++ bs (Seal.frames (laidT ys))) (by rw [bs_append, bs_size, List.length_append]; omega)
  have hsr : Seal.scan (bs (Seal.frames (laidT xs)) ++ bs (Seal.frames (laidT ys))).data.toList = (laidT xs ++ laidT ys, (bs (Seal.frames (laidT xs))).size + (bs (Seal.frames (laidT ys))).size) := by
    rw [bs_append, bs_toList, scan_two _ _ (laid_small xs) (laid_small ys)]
    rfl
  unfold ScanP at hscan
  rw [hsr] at hscan
  have hn1 : (bs (Seal.frames (laidT xs))).size + (bs (Seal.frames (laidT ys))).size = (Seal.frames (laidT xs)).length + (Seal.frames (laidT ys)).length := rfl
  have Hn1 := Lib.hid hn1
  have Hscan := Lib.hid hscan
  have LA := Lib.hid lA
  have LB := Lib.hid lB
  have lA6 : (laidT xs).length ≤ 6 := by omega
  have lB6 : (laidT ys).length ≤ 6 := by omega
  have EA : Hid (∀ i (h : i < (laidT xs).length) (h2 : i < xs.length), (laidT xs)[i] = xs[i].data.toList.take 50) := fun i h h2 => by simp [laidT]
  have EB : Hid (∀ i (h : i < (laidT ys).length) (h2 : i < ys.length), (laidT ys)[i] = ys[i].data.toList.take 50) := fun i h h2 => by simp [laidT]
  clear za zb lA lB hscan hsr hn1
  (go_enter Try.func7, Try.ntmps7)
  go_wp2_with fail
  refine (La.out _ (by exact Sa.out _ (Below.refl _ _))).mono ?_; rintro e w1 ⟨x, rfl, ho1, hB1⟩
  go_wp2_with fail
  refine (Lb.out _ (by exact Sb.out _ hB1)).mono ?_; rintro e w2 ⟨y, rfl, ho2, hb⟩
  have hB2 := hB1.trans (hb.mono hB1.size)
  have ho1' := own_keep ho1 (only_of_below hb (fun _ => False)) (fun _ _ e => e)
  clear ho1 hb
  go_wp2_with fail
  refine (Hscan.out _).mono ?_; rintro e w3 ⟨l, rfl, hol, hb⟩
  have hB3 := hB2.trans (hb.mono hB2.size)
  have ho1 := own_keep ho1' (only_of_below hb (fun _ => False)) (fun _ _ e => e)
  have ho3 := own_keep ho2 (only_of_below hb (fun _ => False)) (fun _ _ e => e)
  clear hB2 hb ho1' ho2
  go_wp2_with fail
  refine (awake_any _).mono ?_; rintro e w4 ⟨rfl, hb⟩
  have hB4 := hB3.trans (hb.mono hB3.size)
  have hx := own_keep ho1 (only_of_below hb (fun _ => False)) (fun _ _ e => e)
  have hy := own_keep ho3 (only_of_below hb (fun _ => False)) (fun _ _ e => e)
  have hl := own_keep hol (only_of_below hb (fun _ => False)) (fun _ _ e => e)
  clear hB3 hb ho1 ho3 hol
  obtain ⟨axo, cx, rfl, _, _, _, _⟩ := Sl.of_own hx
  obtain ⟨ayo, cy, rfl, _, _, _, _⟩ := Sl.of_own hy
  obtain ⟨alo, cl, rfl, _, _, _, hlc⟩ := Sl.of_own hl
  have hll : (laidT xs ++ laidT ys).length = (laidT xs).length + (laidT ys).length := List.length_append
  go_wp2_with fail
  go_loopw [53] (fun i wr => ∃ j m : Nat, j ≤ (laidT xs).length ∧ i = .int .i64 (j) ∧ wr = w4.drewN m) (fun i _ => (laidT xs).length - (intOf i).toNat)
  case atStart => exact ⟨0, 0, by omega, rfl, rfl⟩
  case round =>
    obtain ⟨j, m, hj, rfl, hw⟩ := hrel
    have Hw := Lib.hid hw
    clear hw
    by_cases hlj : j < (laidT xs).length
    · have hjx : j < xs.length := by have := LA.out; omega
      obtain ⟨b, off, rfl, hbW, hca⟩ := hpa (by omega)
      have c1 : wr.cell? ⟨b, off + j, none⟩ = some (.string xs[j]) := by rw [Hw.out]; exact (hB4.cell (p := ⟨b, off + j, none⟩) hbW).trans (hca j xs[j] (List.getElem?_eq_getElem hjx))
      obtain ⟨bl, ol, rfl, _, hcl⟩ := hlc (by omega)
      have c2 : wr.cell? ⟨bl, ol + j, none⟩ = some (.string (bs (laidT xs)[j])) := by rw [Hw.out]; exact hcl j (.string (bs (laidT xs)[j])) (by simp [strs, hlj, List.getElem?_append_left])
      rw [EA.out j hlj hjx] at c2
      have cut := Lib.hid (cut_any xs[j] 50 50 rfl (bs (xs[j].data.toList.take 50)) rfl (Ha.out _ (List.getElem_mem hjx)))
      generalize bs (xs[j].data.toList.take 50) = t at *
      generalize xs[j] = sx at *
      have i1 : (j : Int) < ((laidT xs).length : Int) + (laidT ys).length := by omega
      have i2 : (j : Int) < xs.length := by omega
      clear hca hcl hpa hpb hlc
      go_wp2_with fail
      go_quiet ((go_at_call 9; exact quiet_same (cut.out _)))
      go_wp2_with fail
      exact ⟨⟨j + 1, _, by omega, by go_num, by rw [Hw.out, World.drewN_drewN]⟩, by simp [intOf]; omega⟩
    · obtain rfl : (laidT xs).length = j := by omega
      go_wp2_with fail

      go_loopw [69] (fun i wq => ∃ k m : Nat, k ≤ (laidT ys).length ∧ i = .int .i64 (k) ∧ wq = w4.drewN m) (fun i _ => (laidT ys).length - (intOf i).toNat)
      case atStart => exact ⟨0, m, by omega, rfl, Hw.out⟩
      case round =>
        obtain ⟨k, m2, hk, rfl, hw2⟩ := hrel
        have Hw2 := Lib.hid hw2
        clear hw2
        by_cases hlk : k < (laidT ys).length
        · have hky : k < ys.length := by have := LB.out; omega
          obtain ⟨b, off, rfl, hbW, hca⟩ := hpb (by omega)
          have c1 : wr.cell? ⟨b, off + k, none⟩ = some (.string ys[k]) := by rw [Hw2.out]; exact (hB4.cell (p := ⟨b, off + k, none⟩) hbW).trans (hca k ys[k] (List.getElem?_eq_getElem hky))
          obtain ⟨bl, ol, rfl, _, hcl⟩ := hlc (by omega)
          have c2 : wr.cell? ⟨bl, ol + ((laidT xs).length + k), none⟩ = some (.string (bs (laidT ys)[k])) := by rw [Hw2.out]; exact hcl ((laidT xs).length + k) (.string (bs (laidT ys)[k])) (by simp [strs, hlk, List.getElem?_append_right])
          rw [EB.out k hlk hky] at c2
          have cut := Lib.hid (cut_any ys[k] 50 50 rfl (bs (ys[k].data.toList.take 50)) rfl (Hb.out _ (List.getElem_mem hky)))
          generalize bs (ys[k].data.toList.take 50) = t at *
          generalize ys[k] = sx at *
          have i1 : ((laidT xs).length : Int) + (k : Int) < ((laidT xs).length : Int) + (laidT ys).length := by omega
          have i2 : (k : Int) < ys.length := by omega
          clear hca hcl hpa hpb hlc
          go_wp2_with fail
          go_quiet ((go_at_call 9; exact quiet_same (cut.out _)))
          go_wp2_with fail
          exact ⟨⟨k + 1, _, by omega, by go_num, by rw [Hw2.out, World.drewN_drewN]⟩, by simp [intOf]; omega⟩
        · go_wp2_with fail
          go_ret
          exact ⟨rfl, by rw [Hw2.out]; exact below_drew hB4 _⟩
namespace SealJoined
open Go.ChangeShapes Go.WideShapes Go.ChangeAt Go.RowKit
set_option linter.unusedVariables false
theorem own : ownKnob Try.prog.godebug = none := by kernel_rfl
theorem laidOut : laidOutB Try.prog = true := by kernel_rfl
set_option maxRecDepth 100000 in
theorem lifted (os : Os) (started : os.Started) (H : Type) (enc : TypeId × Value → H) :
    ReturnsInHanded {} Try.checked os 7 .any (Rows.sealJoinedSpec.pre6 enc Try.prog Try.f7 Rows.sealJoinedRow.domain false) (Rows.sealJoinedSpec.post enc Try.prog Try.f7 false true false false) := by
  refine returnsInHanded_of_change (C := Try.checked) own started (by kernel_rfl) Try.func7
    (ChangeSpec.witness6 (enc := enc) (C := Try.checked) false ⟨#[], #[.slice none 0 0, .slice none 0 0], []⟩ 8 (by kernel_rfl) (by kernel_rfl) (by kernel_rfl) (by kernel_rfl)) ?_
  intro W base args ds gs before hval0 hW hcnd _
  have hval : ∀ (j : Nat) t v, Try.f7.params[j]? = some t → args[j]? = some v → Value.okWide Try.prog W .any base t v := hval0
  have hW' := hW
  obtain ⟨p, q, hA0, hV, rfl, hfz, hnd⟩ := hW
  have hA : DataW.TrodAll enc Try.prog W 0 (fun _ => true) true Try.f7.params.toList args.toList ds p := hA0
  rw [Try.params7] at hA hval
  obtain ⟨v0, vs0, d0, ds0, p0, q0, hargs, rfl, rfl, h0, r0⟩ := trodAll_cons hA
  obtain ⟨v1, vs1, d1, ds1, p1, q1, rfl, rfl, rfl, h1, r1⟩ := trodAll_cons r0
  obtain ⟨rfl, rfl, rfl⟩ := trodAll_nil r1
  obtain rfl : args = #[v0, v1] := by cases args; simp_all
  obtain ⟨rfl, rfl⟩ := trodVars_none hV
  have lt0 : ∀ x ∈ p0, x.block < W.heap.size := by obtain ⟨m, hm⟩ := h0; exact DataW.trod_lt m _ _ _ hm
  obtain ⟨x0, w0⟩ := arg_open (Kd.slice .str) h0 (hval 0 _ v0 rfl rfl) (by kernel_rfl)
  have lt1 : ∀ x ∈ p1, x.block < W.heap.size := by obtain ⟨m, hm⟩ := h1; exact DataW.trod_lt m _ _ _ hm
  obtain ⟨x1, w1⟩ := arg_open (Kd.slice .str) h1 (hval 1 _ v1 rfl rfl) (by kernel_rfl)
  clear hA0 hval0
  refine (SealJoined_walk W v0 v1 x0 w0 x1 w1).mono fun e W' ⟨he, bel⟩ => ?_
  subst he
  exact ⟨_, rfl, _, _, _, [], _, [], hW', trodAll_mk1 (shut_bool (by kernel_rfl) _), (trodAll_cons_mk (Below.trod laidOut (by kernel_rfl) (of_decide_eq_true (by kernel_rfl)) h0 bel lt0) (trodAll_cons_mk (Below.trod laidOut (by kernel_rfl) (of_decide_eq_true (by kernel_rfl)) h1 bel lt1) trodAll_mk0)), rfl, bel.frame _, fun h => by cases h⟩

theorem over : Rows.sealJoinedRow.holds Try.pinned (OpenSpec.ofChange Rows.sealJoinedSpec) :=
  OpenClaim.holds_of_wide 7 Try.f7 rfl rfl rfl rfl rfl rfl rfl ⟨rfl, rfl, rfl, rfl, rfl⟩ rfl rfl rfl rfl rfl (by kernel_rfl) Try.func7 (by kernel_rfl)
    (of_decide_eq_true (by kernel_rfl)) (by unfold Func.isWrapper; rw [if_neg (of_decide_eq_false (by kernel_rfl))]; exact ⟨rfl, rfl⟩)
    (fun os started H enc _ => lifted os started H enc)
/-- THE STATEMENT. -/
theorem proved : Rows.SealJoinedSaid := over
#print axioms proved
end SealJoined
end Go.Proofs.Ytabolnflmhfdhaa
