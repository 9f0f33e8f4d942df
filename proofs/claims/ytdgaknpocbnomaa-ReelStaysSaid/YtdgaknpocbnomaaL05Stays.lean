/- What was written stays in its place: the statement ReelStays holds of all arguments. No condition. -/
import Derived.Test.YtdgaknpocbnomaaL05Acts
set_option linter.unusedSimpArgs false
set_option linter.unusedVariables false
namespace Go.Proofs.Ytdgaknpocbnomaa
open Go.RowKit
set_option maxHeartbeats 4000000
set_option maxRecDepth 100000

theorem St.stand {A : List ByteArray} {n : Nat} {x : Vol} (h : St A n x) : x = Vol.stand x.room x.used x.bl x.safe 0 x.pos := by
  obtain ⟨room, used, lost, fail, label, bl, safe, pos, prot, er⟩ := x
  obtain ⟨h1, h2, h3, h4, h5, _, _, _, _⟩ := h
  simp only at h1 h2 h3 h4 h5
  subst h1 h2 h3 h4 h5
  rfl
theorem St.init (R U : Int) (A : List ByteArray) : St A A.length (Vol.at R U (plainB A) A.length 0) :=
  ⟨rfl, rfl, rfl, rfl, rfl, Nat.le_refl _, by show A.length ≤ (plainB A).length; rw [plainB_len]; omega, by show (plainB A).take A.length = _; rw [List.take_of_length_le (by rw [plainB_len]; omega)], by show (plainB A).length ≤ _; rw [plainB_len]; omega⟩
theorem ReelStays_walk (W : World) (v0 v1 : Value) (x0 : (Kd.slice .str).den) (w0 : (Kd.slice .str).Arg W v0 x0) (x1 : (Kd.slice KAct).den) (w1 : (Kd.slice KAct).Arg W v1 x1) :
    Calls Try.prog 7 #[v0, v1] W (Done W) := by
  obtain ⟨xs, rfl⟩ : ∃ xs : List ByteArray, xs = x0 := ⟨_, rfl⟩
  obtain ⟨ao, ca, rfl, hla, hsa, _, hpa⟩ := strs_arg w0
  obtain ⟨ys, bo, cb, rfl, hlb, hmb, hsb, hpb⟩ := act_row w1
  clear w0 w1
  unfold maxLen at hmb
  generalize hlen : xs.length = len at *
  have Hlen := Lib.hid hlen
  generalize hlenb : ys.length = lenb at *
  have Hlenb := Lib.hid hlenb
  have Hpb := Lib.hid hpb
  have Hsb := Lib.hid hsb
  clear hlen hlenb hpb hsb
  (go_enter Try.func7, Try.ntmps7)
  go_wp2_with fail
  refine (rv_New 100000 100000 (by omega) (by omega) (Below.refl _ _)).mono ?_; rintro e w2 ⟨b, base, rfl, hV⟩
  rw [new_at] at hV
  go_wp2_with fail
  refine (awake_any _).mono ?_; rintro e w3 ⟨rfl, hB1⟩
  have hV3 := hV.below hB1
  have hV4 := hV3.below (Below.alloc (Below.refl _ _) (Nat.le_refl _) (.cells #[] 9))
  have hW3 := hV3.bel.size
  clear hV hB1
  go_wp2_with fail
  go_loopw [6, 7] (fun va i wr => ∃ (A : List ByteArray) (U : Int), i = .int .i64 ((A.length : Nat)) ∧ A.length ≤ 8 ∧ A.length ≤ len ∧ 0 ≤ U ∧ U ≤ 34 * A.length ∧ wr.ownsRow W.heap.size 9 1 va A.length (A.map .string) ∧ RV W wr base b (Vol.at 100000 U (plainB A) 0 0)) (fun _ i _ => 9 - (intOf i).toNat)
  case atStart => exact ⟨[], 0, rfl, by simp, by simp, by omega, by simp, World.ownsRow_lit _ #[] 0 hW3 (by decide) rfl, hV4⟩
  clear hV3 hV4 hW3
  obtain ⟨A, U, rfl, hA5, hAl, hU1, hU2, hown, hV⟩ := hrel
  obtain ⟨cd, hcd0⟩ : ∃ cd : Bool, cd = decide (A.length < len ∧ A.length < 8) := ⟨_, rfl⟩
  have hcd : Hid (cd = true ↔ (A.length < len ∧ A.length < 8)) := Lib.hid (by rw [hcd0]; exact decide_eq_true_iff)
  clear hcd0
  go_upto_region 6 with (fail)
  go_cut [28] (fun c wx => c = .bool cd ∧ wx = wr)
  case first =>
    by_cases d1 : A.length < len
    · by_cases d2 : A.length < 8
      · obtain rfl : cd = true := hcd.out.2 ⟨d1, d2⟩
        go_wp2_with fail
        go_meet
        case rel => exact ⟨by first | rfl | (simp; omega), rfl⟩
      · obtain rfl : cd = false := by cases cd; rfl; exact absurd (hcd.out.1 rfl).2 d2
        go_wp2_with fail
        go_meet
        case rel => exact ⟨by first | rfl | (simp; omega), rfl⟩
    · obtain rfl : cd = false := by cases cd; rfl; exact absurd (hcd.out.1 rfl).1 d1
      go_wp2_with fail
      go_meet
      case rel => exact ⟨by first | rfl | (simp; omega), rfl⟩
  obtain ⟨rfl, rfl⟩ := hcut
  generalize wc = wr at *
  cases cd with
  | true =>
    obtain ⟨d1, d2⟩ := hcd.out.1 rfl
    obtain ⟨bb, off, rfl, hbW, hca⟩ := hpa (by omega)
    have hjx : A.length < xs.length := by have := Hlen.out; omega
    have c1 : wr.cell? ⟨bb, off + A.length, none⟩ = some (.string xs[A.length]) := (hV.bel.cell (p := ⟨bb, off + A.length, none⟩) hbW).trans (hca A.length xs[A.length] (List.getElem?_eq_getElem hjx))
    have cut := Lib.hid (cut_any xs[A.length] 30 30 rfl (bs (xs[A.length].data.toList.take 30)) rfl (hsa _ (List.getElem_mem hjx)))
    have hcs := cut_size xs[A.length] 30
    generalize bs (xs[A.length].data.toList.take 30) = t at *
    generalize xs[A.length] = sx at *
    have HT : Hid ((A ++ [t]).map Value.string = A.map .string ++ [.string t]) := Lib.hid (by simp)
    have HTl : Hid ((A ++ [t]).length = A.length + 1) := Lib.hid (by simp)
    have i1 : (A.length : Int) < 8 := by omega
    have i2 : (A.length : Int) < len := by omega
    have hn1 : (A.length + 1) * 16 ≤ 140737488355328 := by omega
    have hn2 : A.length + 1 ≤ maxLen := by unfold maxLen; omega
    have hbs := hV.bel.size
    obtain ⟨av, cv, rfl, _, _, _, _⟩ := Sl.of_own hown
    have HW := Lib.hid (rk_Write hV t (by omega) (by show (plainB A).length < 1000000; rw [plainB_len]; omega))
    rw [write_fits 100000 U (plainB A) 0 0 ⟨t, false, false⟩ (plainB_torn _) (by simp only; omega), ← plainB_snoc] at HW
    clear hca hV
    go_wp2_with fail
    refine (cut.out _).mono ?_; rintro e wq ⟨rfl, rfl⟩
    go_wp2_with fail
    refine HW.out.mono ?_; rintro e w5 ⟨rfl, hV5, hK5⟩
    have ho5 := hK5.own _ _ _ _ _ _ (by decide) (by decide) hown
    have hbs5 := hV5.bel.size
    clear HW hown hK5
    go_wp2_with (at_builtin; refine wpl_app rfl rfl ei_str W.heap.size rfl (ho5.alloc _) [.string t] rfl rfl (Blk.new _ _ _) rfl hn1 hn2 (by simp; omega) ?_; intro v' w6 ho6 hk6)
    have hV6 := RV.appended (hV5.below (Below.alloc (Below.refl _ _) (Nat.le_refl _) (.cells #[.string t] 9))) (ho5.alloc _) (by decide) (by decide) (Nat.le_refl _) hk6
    exact ⟨⟨A ++ [t], U + ((t.size : Int) + 4), by rw [HTl.out]; go_num, by rw [HTl.out]; omega, by rw [HTl.out]; omega, by omega, by rw [HTl.out]; omega, by rw [HTl.out, HT.out]; exact ho6, hV6⟩, by simp [intOf]; omega⟩
  | false =>
    clear hcd hsa hpa
    obtain ⟨av, cv, rfl, _, hcm0, _, _⟩ := Sl.of_own hown
    unfold maxLen at hcm0
    have HF := Lib.hid (rk_Flush hV)
    rw [flush_at, plainB_len] at HF
    clear hV
    go_wp2_with fail
    refine HF.out.mono ?_; rintro e w4 ⟨rfl, hV4, hK4⟩
    have ho4 := hK4.own _ _ _ _ _ _ (by decide) (by decide) hown
    have hS4 := (St.init 100000 U A).more hA5
    clear HF hK4 hown
    generalize Vol.at 100000 U (plainB A) A.length 0 = x at *
    go_wp2_with fail
    generalize wr = wa at *
    go_loopw [9] (fun i wr => ∃ (j : Nat) (x : Vol), i = .int .i64 (j) ∧ j ≤ 20 ∧ j ≤ lenb ∧ RV W wr base b x ∧ St A (8 + j) x ∧ wr.ownsRow W.heap.size 9 1 (.slice av A.length cv) A.length (A.map .string)) (fun i _ => 21 - (intOf i).toNat)
    case atStart => exact ⟨0, x, rfl, by omega, by omega, hV4, hS4, ho4⟩
    clear hV4 hS4 ho4
    obtain ⟨j, x, rfl, hj20, hjb, hV, hS, hown⟩ := hrel
    obtain ⟨cd, hcd0⟩ : ∃ cd : Bool, cd = decide (j < lenb ∧ j < 20) := ⟨_, rfl⟩
    have hcd : Hid (cd = true ↔ (j < lenb ∧ j < 20)) := Lib.hid (by rw [hcd0]; exact decide_eq_true_iff)
    clear hcd0
    go_upto_region 15 with (fail)
    go_cut [54] (fun c wx => c = .bool cd ∧ wx = wr)
    case first =>
      by_cases d1 : j < lenb
      · by_cases d2 : j < 20
        · obtain rfl : cd = true := hcd.out.2 ⟨d1, d2⟩
          go_wp2_with fail
          go_meet
          case rel => exact ⟨by first | rfl | (simp; omega), rfl⟩
        · obtain rfl : cd = false := by cases cd; rfl; exact absurd (hcd.out.1 rfl).2 d2
          go_wp2_with fail
          go_meet
          case rel => exact ⟨by first | rfl | (simp; omega), rfl⟩
      · obtain rfl : cd = false := by cases cd; rfl; exact absurd (hcd.out.1 rfl).1 d1
        go_wp2_with fail
        go_meet
        case rel => exact ⟨by first | rfl | (simp; omega), rfl⟩
    obtain ⟨rfl, rfl⟩ := hcut
    generalize wc = wr at *
    cases cd with
    | true =>
      obtain ⟨d1, d2⟩ := hcd.out.1 rfl
      obtain ⟨bb, off, rfl, hbW, hca⟩ := Hpb.out (by omega)
      have hjx : j < ys.length := by have := Hlenb.out; omega
      have hcj := hca j ys[j] (List.getElem?_eq_getElem hjx)
      obtain ⟨hwf, l, hsl, co, cc, hcv⟩ := Hsb.out ys[j] (List.getElem_mem hjx)
      generalize ys[j] = y at *
      obtain ⟨k, n, m, s, ch, cv2, u⟩ := y
      obtain ⟨f1, f2, f3, f4, f5, f6⟩ := hwf
      simp only at f1 f2 f3 f4 f5 f6 hsl hcv
      subst hcv
      have c0 := (hV.bel.cell (p := ⟨bb, off + (j * 6 + 0), none⟩) hbW).trans (hcj 0 _ rfl)
      have c1 := (hV.bel.cell (p := ⟨bb, off + (j * 6 + 1), none⟩) hbW).trans (hcj 1 _ rfl)
      have c2 := (hV.bel.cell (p := ⟨bb, off + (j * 6 + 2), none⟩) hbW).trans (hcj 2 _ rfl)
      have c3 := (hV.bel.cell (p := ⟨bb, off + (j * 6 + 3), none⟩) hbW).trans (hcj 3 _ rfl)
      have c4 := (hV.bel.cell (p := ⟨bb, off + (j * 6 + 4), none⟩) hbW).trans (hcj 4 _ rfl)
      have c5 := (hV.bel.cell (p := ⟨bb, off + (j * 6 + 5), none⟩) hbW).trans (hcj 5 _ rfl)
      rw [← Nat.add_assoc] at c0 c1 c2 c3 c4 c5
      rw [Nat.add_zero] at c0
      have i1 : (j : Int) < 20 := by omega
      have i2 : (j : Int) < lenb := by omega
      clear hca hcj
      obtain ⟨f11, f12⟩ := f1
      have hVA := hV.below (Below.alloc (Below.refl _ _) (Nat.le_refl _) (.cells #[.int .i64 (k), .int .i64 (n), .int .i64 (m), .string s, .slice co l cc, .int .u8 u] 48))
      have hoA := hown.alloc (.cells #[.int .i64 (k), .int .i64 (n), .int .i64 (m), .string s, .slice co l cc, .int .u8 u] 48)
      have hslA := Lib.hid (hsl.below hVA.bel)
      have hlen9 : x.bl.length < 1000000 := by have := hS.len; omega
      clear hV hown hsl
      by_cases k1 : k = 1
      · subst k1
        have cut := Lib.hid (cut_any s 30 30 rfl (bs (s.data.toList.take 30)) rfl f4)
        have hcs := cut_size s 30
        generalize bs (s.data.toList.take 30) = t at *
        have HX := Lib.hid (rk_Write hVA t (by omega) hlen9)
        go_wp2_with fail
        refine (cut.out _).mono ?_; rintro e wq ⟨rfl, rfl⟩
        go_wp2_with fail
        refine HX.out.mono ?_; rintro e w5 ⟨rfl, hV5, hK5⟩
        clear HX hVA
        have ho5 := hK5.own _ _ _ _ _ _ (by decide) (by decide) hoA
        go_wp2_with fail
        exact ⟨⟨j + 1, _, by go_num, by omega, by omega, hV5, hS.write _, ho5⟩, by simp [intOf]; omega⟩
      by_cases k2 : k = 2
      · subst k2
        have HX := Lib.hid (rk_Mark hVA hlen9)
        go_wp2_with fail
        refine HX.out.mono ?_; rintro e w5 ⟨rfl, hV5, hK5⟩
        clear HX hVA
        have ho5 := hK5.own _ _ _ _ _ _ (by decide) (by decide) hoA
        go_wp2_with fail
        exact ⟨⟨j + 1, _, by go_num, by omega, by omega, hV5, hS.write _, ho5⟩, by simp [intOf]; omega⟩
      by_cases k3 : k = 3
      · subst k3
        have HX := Lib.hid (rk_Flush hVA)
        go_wp2_with fail
        refine HX.out.mono ?_; rintro e w5 ⟨rfl, hV5, hK5⟩
        clear HX hVA
        have ho5 := hK5.own _ _ _ _ _ _ (by decide) (by decide) hoA
        go_wp2_with fail
        exact ⟨⟨j + 1, _, by go_num, by omega, by omega, hV5, hS.flush.more (by omega), ho5⟩, by simp [intOf]; omega⟩
      by_cases k4 : k = 4
      · subst k4
        have HX := Lib.hid (rk_Read hVA)
        go_wp2_with fail
        refine HX.out.mono ?_; rintro e w5 ⟨rfl, hV5, hK5⟩
        clear HX hVA
        have ho5 := hK5.own _ _ _ _ _ _ (by decide) (by decide) hoA
        go_wp2_with fail
        exact ⟨⟨j + 1, _, by go_num, by omega, by omega, hV5, hS.read.more (by omega), ho5⟩, by simp [intOf]; omega⟩
      by_cases k5 : k = 5
      · subst k5
        have HX := Lib.hid (rk_Seek hVA n f2)
        go_wp2_with fail
        refine HX.out.mono ?_; rintro e w5 ⟨rfl, hV5, hK5⟩
        clear HX hVA
        have ho5 := hK5.own _ _ _ _ _ _ (by decide) (by decide) hoA
        go_wp2_with fail
        exact ⟨⟨j + 1, _, by go_num, by omega, by omega, hV5, (hS.seek n).more (by omega), ho5⟩, by simp [intOf]; omega⟩
      by_cases k6 : k = 6
      · subst k6
        have HX := Lib.hid (rk_Skip hVA)
        go_wp2_with fail
        refine HX.out.mono ?_; rintro e w5 ⟨rfl, hV5, hK5⟩
        clear HX hVA
        have ho5 := hK5.own _ _ _ _ _ _ (by decide) (by decide) hoA
        go_wp2_with fail
        exact ⟨⟨j + 1, _, by go_num, by omega, by omega, hV5, hS.skip.more (by omega), ho5⟩, by simp [intOf]; omega⟩
      by_cases k7 : k = 7
      · subst k7
        have HX := Lib.hid (rk_Trim hVA)
        go_wp2_with fail
        refine HX.out.mono ?_; rintro e w5 ⟨rfl, hV5, hK5⟩
        clear HX hVA
        have ho5 := hK5.own _ _ _ _ _ _ (by decide) (by decide) hoA
        go_wp2_with fail
        exact ⟨⟨j + 1, _, by go_num, by omega, by omega, hV5, hS.trim.more (by omega), ho5⟩, by simp [intOf]; omega⟩
      by_cases k9 : k = 9
      · subst k9
        have HX := Lib.hid (rk_Crash hVA ch f5 _ l hslA.out hlen9)
        go_wp2_with fail
        refine HX.out.mono ?_; rintro e w5 ⟨rfl, hV5, hK5⟩
        clear HX hVA
        have ho5 := hK5.own _ _ _ _ _ _ (by decide) (by decide) hoA
        go_wp2_with fail
        exact ⟨⟨j + 1, _, by go_num, by omega, by omega, hV5, (hS.crash ch).more (by omega), ho5⟩, by simp [intOf]; omega⟩
      go_wp2_with fail
      exact ⟨⟨j + 1, _, by go_num, by omega, by omega, hVA, hS.more (by omega), hoA⟩, by simp [intOf]; omega⟩
    | false =>
      clear hcd Hpb Hsb Hlen Hlenb
      have hb7 := hV.bel
      have hLn : x.bl.length < 100 := by have := hS.len; omega
      have hVs := hV
      rw [hS.stand] at hVs
      have HBl := Lib.hid (reel_blocks _ _ _ _ _ _ hVs hLn)
      have Hseen : Hid (∀ j, Seen x.bl j → A.length ≤ j) := Lib.hid (fun j h => hS.seen h)
      have Hget : Hid (∀ (i j : Nat) (h : i < A.length), A.length ≤ j → (textv (x.bl.take j))[i]? = some (.string A[i])) := Lib.hid (fun i j h hj => by
        have e := hS.notTorn h
        unfold textv
        rw [List.getElem?_map, List.getElem?_take, if_pos (by omega), e]
        rfl)
      clear hV hVs hS
      go_wp2_with fail
      refine HBl.out.mono ?_; rintro e w7 ⟨vg, g, rfl, hse, hog, hV7, hK7⟩
      have hAg := Hseen.out g hse
      have ho7 := hK7.own _ _ _ _ _ _ (by decide) (by decide) hown
      have HE := Lib.hid (rv_Erased hV7)
      have hb8 := hV7.bel
      clear hse hK7 hown HBl Hseen hV7
      simp only [Vol.stand] at HE
      obtain ⟨ag, cg, rfl, _, hgm, _, hsg⟩ := Sl.of_own hog
      obtain ⟨_, _, ev, _, _, _, hsc⟩ := Sl.of_own ho7
      cases ev
      unfold maxLen at hgm
      have i8 : (A.length : Int) ≤ (g : Int) := by omega
      have Hsg := Lib.hid hsg
      have Hsc := Lib.hid hsc
      clear hog ho7 hU1 hU2 hsg hsc
      go_wp2_with fail
      refine HE.out.mono ?_; rintro e w8 ⟨rfl, rfl⟩
      clear HE
      go_wp2_with fail
      generalize wr = wa at *
      go_loopw [116] (fun i wr => ∃ (j m : Nat), i = .int .i64 (j) ∧ j ≤ A.length ∧ Hid (wr = w7.drewN m)) (fun i _ => A.length - (intOf i).toNat)
      case atStart => exact ⟨0, 0, rfl, by omega, Lib.hid rfl⟩
      obtain ⟨j2, m, rfl, hj, hw⟩ := hrel
      by_cases dj : j2 < A.length
      · obtain ⟨b1, o1, rfl, hlt1, hc1⟩ := Hsg.out (by omega)
        obtain ⟨b2, o2, rfl, hlt2, hc2⟩ := Hsc.out (by first | omega | (simp only; omega))
        have d1 : wr.cell? ⟨b1, o1 + j2, none⟩ = some (.string A[j2]) := by rw [hw.out]; exact hc1 j2 _ (Hget.out j2 g dj hAg)
        have d2 : wr.cell? ⟨b2, o2 + j2, none⟩ = some (.string A[j2]) := by rw [hw.out]; exact hc2 j2 _ (by simp [dj])
        generalize A[j2] = sj at *
        clear hc1 hc2 Hsg Hsc Hget
        have i1 : (j2 : Int) < (g : Int) := by omega
        have i2 : (j2 : Int) < (A.length : Int) := by omega
        go_wp2_with fail
        go_quiet (fail)
        go_wp2_with fail
        exact ⟨⟨j2 + 1, _, by go_num, by omega, Lib.hid (by rw [hw.out, World.drewN_drewN])⟩, by simp [intOf]; omega⟩
      · go_wp2_with fail
        go_ret
        exact ⟨rfl, by rw [hw.out]; exact below_drew hb8 _⟩
namespace ReelStays
open Go.ChangeShapes Go.WideShapes Go.ChangeAt Go.RowKit
set_option linter.unusedVariables false
theorem own : ownKnob Try.prog.godebug = none := by kernel_rfl
theorem laidOut : laidOutB Try.prog = true := by kernel_rfl
set_option maxRecDepth 100000 in
theorem lifted (os : Os) (started : os.Started) (H : Type) (enc : TypeId × Value → H) :
    ReturnsInHanded {} Try.checked os 7 .any (Rows.reelStaysSpec.pre6 enc Try.prog Try.f7 Rows.reelStaysRow.domain false) (Rows.reelStaysSpec.post enc Try.prog Try.f7 false true false false) := by
  refine returnsInHanded_of_change (C := Try.checked) own started (by kernel_rfl) Try.func7
    (ChangeSpec.witness6 (enc := enc) (C := Try.checked) false ⟨#[], #[.slice none 0 0, .slice none 0 0], []⟩ 8 (by kernel_rfl) (by kernel_rfl) (by kernel_rfl) (by kernel_rfl)) ?_
  intro W base args ds gs before hval0 hW hcnd _
  have hval : ∀ (j : Nat) t v, Try.f7.params[j]? = some t → args[j]? = some v → Value.okWide Try.prog W .any base t v := hval0
  have hW' := hW
  obtain ⟨p, q, hA0, hV, rfl, hfz, hnd⟩ := hW
  have hA : DataW.TrodAll enc Try.prog W 0 (fun _ => true) true Try.f7.params.toList args.toList ds p := hA0
  rw [Try.params7] at hA hval
  obtain ⟨v0, vs0, d0, ds0, p0, q0, hargs, rfl, rfl, h0, r0⟩ := trodAll_cons hA
  obtain ⟨v1, vs1, d1, ds1, p1, q1, rfl, rfl, rfl, h1, r1⟩ := trodAll_cons r0
  obtain ⟨rfl, rfl, rfl⟩ := trodAll_nil r1
  obtain rfl : args = #[v0, v1] := by cases args; simp_all
  obtain ⟨rfl, rfl⟩ := trodVars_none hV
  have lt0 : ∀ x ∈ p0, x.block < W.heap.size := by obtain ⟨m, hm⟩ := h0; exact DataW.trod_lt m _ _ _ hm
  obtain ⟨x0, w0⟩ := arg_open (Kd.slice .str) h0 (hval 0 _ v0 rfl rfl) (by kernel_rfl)
  have lt1 : ∀ x ∈ p1, x.block < W.heap.size := by obtain ⟨m, hm⟩ := h1; exact DataW.trod_lt m _ _ _ hm
  obtain ⟨x1, w1⟩ := arg_open (Kd.slice KAct) h1 (hval 1 _ v1 rfl rfl) (by kernel_rfl)
  clear hA0 hval0
  refine (ReelStays_walk W v0 v1 x0 w0 x1 w1).mono fun e W' ⟨he, bel⟩ => ?_
  subst he
  exact ⟨_, rfl, _, _, _, [], _, [], hW', trodAll_mk1 (shut_bool (by kernel_rfl) _), (trodAll_cons_mk (Below.trod laidOut (by kernel_rfl) (of_decide_eq_true (by kernel_rfl)) h0 bel lt0) (trodAll_cons_mk (Below.trod laidOut (by kernel_rfl) (of_decide_eq_true (by kernel_rfl)) h1 bel lt1) trodAll_mk0)), rfl, bel.frame _, fun h => by cases h⟩

theorem over : Rows.reelStaysRow.holds Try.pinned (OpenSpec.ofChange Rows.reelStaysSpec) :=
  OpenClaim.holds_of_wide 7 Try.f7 rfl rfl rfl rfl rfl rfl rfl ⟨rfl, rfl, rfl, rfl, rfl⟩ rfl rfl rfl rfl rfl (by kernel_rfl) Try.func7 (by kernel_rfl)
    (of_decide_eq_true (by kernel_rfl)) (by unfold Func.isWrapper; rw [if_neg (of_decide_eq_false (by kernel_rfl))]; exact ⟨rfl, rfl⟩)
    (fun os started H enc _ => lifted os started H enc)
/-- THE STATEMENT. -/
theorem proved : Rows.ReelStaysSaid := over
#print axioms proved
end ReelStays
end Go.Proofs.Ytdgaknpocbnomaa
