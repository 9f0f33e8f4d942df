/- Behind a crash a beginning of what was written is left: the statement ReelTorn holds of all arguments. No condition. -/
import Derived.Test.YtdgaknpocbnomaaL05Blocks
set_option linter.unusedSimpArgs false
set_option linter.unusedVariables false
namespace Go.Proofs.Ytdgaknpocbnomaa
open Go.RowKit
set_option maxHeartbeats 4000000
set_option maxRecDepth 100000

/-- blocks of these texts -/
def plainB (A : List ByteArray) : List Bk := A.map (fun t => ⟨t, false, false⟩)
theorem plainB_len (A : List ByteArray) : (plainB A).length = A.length := by simp [plainB]
theorem plainB_torn (A : List ByteArray) : lastTorn (plainB A) = false := by
  unfold lastTorn plainB
  rcases h : (A.map (fun t => (⟨t, false, false⟩ : Bk))).getLast? with _ | k
  · rfl
  · have := List.mem_of_getLast? h
    simp only [List.mem_map] at this
    obtain ⟨_, _, rfl⟩ := this
    rfl
theorem plainB_snoc (A : List ByteArray) (t : ByteArray) : plainB (A ++ [t]) = plainB A ++ [⟨t, false, false⟩] := by simp [plainB]
theorem plainB_take (A : List ByteArray) (n : Nat) : (plainB A).take n = plainB (A.take n) := by simp [plainB, List.map_take]
theorem plainB_get (A : List ByteArray) (n : Nat) : (plainB A)[n]? = (A[n]?).map (fun t => ⟨t, false, false⟩) := by simp [plainB]
theorem textv_plain (A : List ByteArray) : textv (plainB A) = A.map .string := by simp [textv, plainB, Bk.text]
theorem flush_at (R U : Int) (L : List Bk) (sf : Nat) (er : Int) : (Vol.at R U L sf er).flush = (0, Vol.at R U L L.length er) := by
  have e2 : tryR false 0 = (0, 0) := rfl
  unfold Vol.flush Vol.at
  simp [e2]
/-- a crash and a Trim, one behind the other, of blocks of texts -/
theorem crash_plain (R U : Int) (A : List ByteArray) (n : Nat) (er : Int) (p : Nat) (ch : List Int) (hn : n ≤ A.length) :
    ∃ U1 L1 s1 k, (Vol.stand R U (plainB A) n er p).crash ch = Vol.stand R U1 L1 s1 er 0 ∧ k = n + (pickR ch 0 (((A.length - n : Nat) : Int) + 1)).toNat ∧
      (∃ e U2 s2, (Vol.stand R U1 L1 s1 er 0).trim = (e, Vol.stand R U2 (plainB (A.take k)) s2 er 0) ∧ (e = 0 ∨ e = 5)) := by
  obtain ⟨k, hk⟩ : ∃ k, k = n + (pickR ch 0 (((A.length - n : Nat) : Int) + 1)).toNat := ⟨_, rfl⟩
  have e2 : tryR false 0 = (0, 0) := rfl
  have hout : crashOut (Vol.stand R U (plainB A) n er p) ch = plainB (A.take k) ∨ ∃ t, crashOut (Vol.stand R U (plainB A) n er p) ch = plainB (A.take k) ++ [⟨t, false, true⟩] := by
    unfold crashOut Vol.stand
    simp only [plainB_len, plainB_get, plainB_take]
    rw [← hk]
    rcases h : A[k]? with _ | t
    · exact Or.inl rfl
    · simp only [Option.map_some]
      split
      · exact Or.inr ⟨_, rfl⟩
      · exact Or.inl rfl
  refine ⟨takeAll R (crashOut (Vol.stand R U (plainB A) n er p) ch) 0, crashOut (Vol.stand R U (plainB A) n er p) ch, (crashOut (Vol.stand R U (plainB A) n er p) ch).length, k, rfl, hk, ?_⟩
  rcases hout with h | ⟨t, h⟩
  · rw [h]
    refine ⟨5, takeAll R (plainB (A.take k)) 0, (plainB (A.take k)).length, ?_, Or.inr rfl⟩
    unfold Vol.trim Vol.stand
    simp only [e2, plainB_torn]
    rfl
  · rw [h]
    have hl : (plainB (A.take k) ++ [(⟨t, false, true⟩ : Bk)]).length - 1 = (plainB (A.take k)).length := by rw [List.length_append]; simp
    refine ⟨0, (giveR (takeAll R (plainB (A.take k) ++ [⟨t, false, true⟩]) 0) (lastSize (plainB (A.take k) ++ [⟨t, false, true⟩]) + 4)).2, min (plainB (A.take k) ++ [(⟨t, false, true⟩ : Bk)]).length ((plainB (A.take k) ++ [(⟨t, false, true⟩ : Bk)]).length - 1), ?_, Or.inl rfl⟩
    unfold Vol.trim Vol.stand
    simp only [e2, lastTorn_snoc]
    rw [if_neg (by simp), if_neg (by simp), if_neg (by simp)]
    rw [hl, List.take_left, Nat.zero_min]
theorem seen_plain (A : List ByteArray) (j : Nat) (h : Seen (plainB A) j) : j = A.length := by
  obtain ⟨h1, _, h3⟩ := h
  rw [plainB_len] at h1
  rcases Nat.lt_or_ge j A.length with hl | hl
  · have := h3 ⟨A[j], false, false⟩ (by rw [plainB_get, List.getElem?_eq_getElem hl]; rfl)
    cases this
  · omega
theorem pick_g (C n : Nat) (kp pt : Int) (hn : n ≤ C) : n ≤ n + (pickR [kp, pt] 0 (((C - n : Nat) : Int) + 1)).toNat ∧ n + (pickR [kp, pt] 0 (((C - n : Nat) : Int) + 1)).toNat ≤ C ∧ (0 ≤ kp → kp ≤ (C : Int) - n → ((n + (pickR [kp, pt] 0 (((C - n : Nat) : Int) + 1)).toNat : Nat) : Int) = n + kp) := by
  have h := pickR_bd [kp, pt] 0 (((C - n : Nat) : Int) + 1)
  have h2 := h.2.1 (by omega)
  refine ⟨by omega, by omega, fun h3 h4 => ?_⟩
  have e : pickR [kp, pt] 0 (((C - n : Nat) : Int) + 1) = kp := by
    unfold pickR
    rw [if_pos ⟨by decide, by simp, by omega⟩]
    show kp % (((C - n : Nat) : Int) + 1) = kp
    exact Int.emod_eq_of_lt h3 (by omega)
  rw [e]
  omega
theorem ReelTorn_walk (W : World) (v0 v1 v2 v3 : Value) (x0 : (Kd.slice .str).den) (w0 : (Kd.slice .str).Arg W v0 x0) (x1 : (Kd.slice .str).den) (w1 : (Kd.slice .str).Arg W v1 x1) (x2 : (Kd.int .i64).den) (w2 : (Kd.int .i64).Arg W v2 x2) (x3 : (Kd.int .i64).den) (w3 : (Kd.int .i64).Arg W v3 x3) :
    Calls Try.prog 6 #[v0, v1, v2, v3] W (Done W) := by
  obtain ⟨kp, rfl⟩ : ∃ a : Int, a = x2 := ⟨_, rfl⟩
  obtain ⟨pt, rfl⟩ : ∃ a : Int, a = x3 := ⟨_, rfl⟩
  obtain ⟨xs, rfl⟩ : ∃ xs : List ByteArray, xs = x0 := ⟨_, rfl⟩
  obtain ⟨ys, rfl⟩ : ∃ ys : List ByteArray, ys = x1 := ⟨_, rfl⟩
  obtain ⟨rfl, hwk⟩ := w2
  obtain ⟨rfl, hwp⟩ := w3
  obtain ⟨hk1, hk2⟩ := wf_i64 hwk
  obtain ⟨ao, ca, rfl, hla, hsa, _, hpa⟩ := strs_arg w0
  obtain ⟨bo, cb, rfl, hlb, hsb, _, hpb⟩ := strs_arg w1
  clear w0 w1
  generalize hlen : xs.length = len at *
  have Hlen := Lib.hid hlen
  generalize hlenb : ys.length = lenb at *
  have Hlenb := Lib.hid hlenb
  have Hpb := Lib.hid hpb
  have Hsb := Lib.hid hsb
  clear hlen hlenb hpb hsb
  (go_enter Try.func6, Try.ntmps6)
  go_wp2_with fail
  refine (rv_New 100000 100000 (by omega) (by omega) (Below.refl _ _)).mono ?_; rintro e w2 ⟨b, base, rfl, hV⟩
  rw [new_at] at hV
  go_wp2_with fail
  refine (awake_any _).mono ?_; rintro e w3 ⟨rfl, hB1⟩
  have hV3 := hV.below hB1
  have hV4 := hV3.below (Below.alloc (Below.refl _ _) (Nat.le_refl _) (.cells #[] 9))
  have hW3 := hV3.bel.size
  clear hV hB1
  go_wp2_with fail
  go_loopw [10, 11] (fun va i wr => ∃ (A : List ByteArray), i = .int .i64 ((A.length : Nat)) ∧ A.length ≤ 5 ∧ A.length ≤ len ∧ (∀ t ∈ A, t.size ≤ 30) ∧ wr.ownsRow W.heap.size 9 1 va A.length (A.map .string) ∧ RV W wr base b (Vol.at 100000 0 [] 0 0)) (fun _ i _ => 6 - (intOf i).toNat)
  case atStart => exact ⟨[], rfl, by simp, by simp, by simp, World.ownsRow_lit _ #[] 0 hW3 (by decide) rfl, hV4⟩
  clear hV3 hV4 hW3
  obtain ⟨A, rfl, hA5, hAl, hA30, hown, hV⟩ := hrel
  obtain ⟨cd, hcd0⟩ : ∃ cd : Bool, cd = decide (A.length < len ∧ A.length < 5) := ⟨_, rfl⟩
  have hcd : Hid (cd = true ↔ (A.length < len ∧ A.length < 5)) := Lib.hid (by rw [hcd0]; exact decide_eq_true_iff)
  clear hcd0
  go_upto_region 6 with (fail)
  go_cut [34] (fun c wx => c = .bool cd ∧ wx = wr)
  case first =>
    by_cases d1 : A.length < len
    · by_cases d2 : A.length < 5
      · obtain rfl : cd = true := hcd.out.2 ⟨d1, d2⟩
        go_wp2_with fail
        go_meet
        case rel => exact ⟨by first | rfl | (simp; omega), rfl⟩
      · obtain rfl : cd = false := by cases cd; rfl; exact absurd (hcd.out.1 rfl).2 d2
        go_wp2_with fail
        go_meet
        case rel => exact ⟨by first | rfl | (simp; omega), rfl⟩
    · obtain rfl : cd = false := by cases cd; rfl; exact absurd (hcd.out.1 rfl).1 d1
      go_wp2_with fail
      go_meet
      case rel => exact ⟨by first | rfl | (simp; omega), rfl⟩
  obtain ⟨rfl, rfl⟩ := hcut
  generalize wc = wr at *
  cases cd with
  | true =>
    obtain ⟨d1, d2⟩ := hcd.out.1 rfl
    obtain ⟨bb, off, rfl, hbW, hca⟩ := hpa (by omega)
    have hjx : A.length < xs.length := by have := Hlen.out; omega
    have c1 : wr.cell? ⟨bb, off + A.length, none⟩ = some (.string xs[A.length]) := (hV.bel.cell (p := ⟨bb, off + A.length, none⟩) hbW).trans (hca A.length xs[A.length] (List.getElem?_eq_getElem hjx))
    have cut := Lib.hid (cut_any xs[A.length] 30 30 rfl (bs (xs[A.length].data.toList.take 30)) rfl (hsa _ (List.getElem_mem hjx)))
    have hcs := cut_size xs[A.length] 30
    generalize bs (xs[A.length].data.toList.take 30) = t at *
    generalize xs[A.length] = sx at *
    have hA30' : Hid (∀ t' ∈ A ++ [t], t'.size ≤ 30) := Lib.hid (by
      intro t' h
      rcases List.mem_append.1 h with h | h
      · exact hA30 t' h
      · simp at h; subst h; exact hcs)
    have HT : Hid ((A ++ [t]).map Value.string = A.map .string ++ [.string t]) := Lib.hid (by simp)
    have HTl : Hid ((A ++ [t]).length = A.length + 1) := Lib.hid (by simp)
    have i1 : (A.length : Int) < 5 := by omega
    have i2 : (A.length : Int) < len := by omega
    have hn1 : (A.length + 1) * 16 ≤ 140737488355328 := by omega
    have hn2 : A.length + 1 ≤ maxLen := by unfold maxLen; omega
    have hbs := hV.bel.size
    obtain ⟨av, cv, rfl, _, _, _, _⟩ := Sl.of_own hown
    clear hca hA30
    go_wp2_with fail
    refine (cut.out _).mono ?_; rintro e wq ⟨rfl, rfl⟩
    go_wp2_with (at_builtin; refine wpl_app rfl rfl ei_str W.heap.size rfl (hown.alloc _) [.string t] rfl rfl (Blk.new _ _ _) rfl hn1 hn2 (by simp; omega) ?_; intro v' w6 ho6 hk6)
    have hV6 := RV.appended (hV.below (Below.alloc (Below.refl _ _) (Nat.le_refl _) (.cells #[.string t] 9))) (hown.alloc _) (by decide) (by decide) (Nat.le_refl _) hk6
    exact ⟨⟨A ++ [t], by rw [HTl.out]; go_num, by rw [HTl.out]; omega, by rw [HTl.out]; omega, hA30'.out, by rw [HTl.out, HT.out]; exact ho6, hV6⟩, by simp [intOf]; omega⟩
  | false =>
    clear hcd
    obtain ⟨av0, cv0, rfl, _, hcm0, _, _⟩ := Sl.of_own hown
    unfold maxLen at hcm0
    go_wp2_with fail
    generalize wr = wa at *
    go_loopw [10, 13] (fun va i wr => ∃ (B : List ByteArray), i = .int .i64 ((B.length : Nat)) ∧ B.length ≤ 5 ∧ B.length ≤ lenb ∧ (∀ t ∈ A ++ B, t.size ≤ 30) ∧ wr.ownsRow W.heap.size 9 1 va (A ++ B).length ((A ++ B).map .string) ∧ RV W wr base b (Vol.at 100000 0 [] 0 0)) (fun _ i _ => 6 - (intOf i).toNat)
    case atStart => exact ⟨[], rfl, by simp, by simp, by simpa using hA30, by simpa using hown, hV⟩
    clear hA30 hown hV
    obtain ⟨B, rfl, hB5, hBl, hA30, hown, hV⟩ := hrel
    obtain ⟨cd, hcd0⟩ : ∃ cd : Bool, cd = decide (B.length < lenb ∧ B.length < 5) := ⟨_, rfl⟩
    have hcd : Hid (cd = true ↔ (B.length < lenb ∧ B.length < 5)) := Lib.hid (by rw [hcd0]; exact decide_eq_true_iff)
    clear hcd0
    go_upto_region 11 with (fail)
    go_cut [54] (fun c wx => c = .bool cd ∧ wx = wr)
    case first =>
      by_cases d1 : B.length < lenb
      · by_cases d2 : B.length < 5
        · obtain rfl : cd = true := hcd.out.2 ⟨d1, d2⟩
          go_wp2_with fail
          go_meet
          case rel => exact ⟨by first | rfl | (simp; omega), rfl⟩
        · obtain rfl : cd = false := by cases cd; rfl; exact absurd (hcd.out.1 rfl).2 d2
          go_wp2_with fail
          go_meet
          case rel => exact ⟨by first | rfl | (simp; omega), rfl⟩
      · obtain rfl : cd = false := by cases cd; rfl; exact absurd (hcd.out.1 rfl).1 d1
        go_wp2_with fail
        go_meet
        case rel => exact ⟨by first | rfl | (simp; omega), rfl⟩
    obtain ⟨rfl, rfl⟩ := hcut
    generalize wc = wr at *
    cases cd with
    | true =>
      obtain ⟨d1, d2⟩ := hcd.out.1 rfl
      obtain ⟨bb, off, rfl, hbW, hca⟩ := Hpb.out (by omega)
      have hjx : B.length < ys.length := by have := Hlenb.out; omega
      have c1 : wr.cell? ⟨bb, off + B.length, none⟩ = some (.string ys[B.length]) := (hV.bel.cell (p := ⟨bb, off + B.length, none⟩) hbW).trans (hca B.length ys[B.length] (List.getElem?_eq_getElem hjx))
      have cut := Lib.hid (cut_any ys[B.length] 30 30 rfl (bs (ys[B.length].data.toList.take 30)) rfl (Hsb.out _ (List.getElem_mem hjx)))
      have hcs := cut_size ys[B.length] 30
      generalize bs (ys[B.length].data.toList.take 30) = t at *
      generalize ys[B.length] = sx at *
      have hA30' : Hid (∀ t' ∈ A ++ (B ++ [t]), t'.size ≤ 30) := Lib.hid (by
        intro t' h
        rw [← List.append_assoc] at h
        rcases List.mem_append.1 h with h | h
        · exact hA30 t' h
        · simp at h; subst h; exact hcs)
      have HT : Hid ((A ++ (B ++ [t])).map Value.string = (A ++ B).map .string ++ [.string t]) := Lib.hid (by simp)
      have HTl : Hid ((A ++ (B ++ [t])).length = (A ++ B).length + 1) := Lib.hid (by simp; omega)
      have HTb : Hid ((B ++ [t]).length = B.length + 1) := Lib.hid (by simp)
      have i1 : (B.length : Int) < 5 := by omega
      have i2 : (B.length : Int) < lenb := by omega
      have hABl : (A ++ B).length ≤ 10 := by rw [List.length_append]; omega
      generalize hC : A ++ B = C at *
      have hn1 : (C.length + 1) * 16 ≤ 140737488355328 := by omega
      have hn2 : C.length + 1 ≤ maxLen := by unfold maxLen; omega
      have hbs := hV.bel.size
      obtain ⟨av, cv, rfl, _, _, _, _⟩ := Sl.of_own hown
      clear hca hA30 hC
      go_wp2_with fail
      refine (cut.out _).mono ?_; rintro e wq ⟨rfl, rfl⟩
      go_wp2_with (at_builtin; refine wpl_app rfl rfl ei_str W.heap.size rfl (hown.alloc _) [.string t] rfl rfl (Blk.new _ _ _) rfl hn1 hn2 (by simp; omega) ?_; intro v' w6 ho6 hk6)
      have hV6 := RV.appended (hV.below (Below.alloc (Below.refl _ _) (Nat.le_refl _) (.cells #[.string t] 9))) (hown.alloc _) (by decide) (by decide) (Nat.le_refl _) hk6
      exact ⟨⟨B ++ [t], by rw [HTb.out]; go_num, by rw [HTb.out]; omega, by rw [HTb.out]; omega, hA30'.out, by rw [HTl.out, HT.out]; exact ho6, hV6⟩, by simp [intOf]; omega⟩
    | false =>
      clear hcd Hpb Hsb Hlen Hlenb hpa hsa
      have hnC : A.length ≤ (A ++ B).length := by rw [List.length_append]; omega
      have hC10 : (A ++ B).length ≤ 10 := by rw [List.length_append]; omega
      obtain ⟨n, hn⟩ : ∃ n, n = A.length := ⟨_, rfl⟩
      rw [← hn] at hnC ⊢
      clear hBl hB5 hAl hA5
      generalize A ++ B = C at *
      clear hn
      have HC30 := Lib.hid hA30
      clear hA30
      obtain ⟨av, cv, rfl, _, hcm, _, _⟩ := Sl.of_own hown
      unfold maxLen at hcm
      go_wp2_with fail
      generalize wr = wa at *
      go_loopw [67] (fun i wr => ∃ (k : Nat) (U : Int), i = .int .i64 (k) ∧ k ≤ C.length ∧ 0 ≤ U ∧ U ≤ 34 * k ∧ wr.ownsRow W.heap.size 9 1 (.slice av C.length cv) C.length (C.map .string) ∧ RV W wr base b (Vol.at 100000 U (plainB (C.take k)) (if n < k then n else 0) 0)) (fun i _ => C.length - (intOf i).toNat)
      case atStart => exact ⟨0, 0, rfl, by omega, by omega, by omega, hown, by simpa [plainB] using hV⟩
      clear hown hV
      obtain ⟨k, U, rfl, hk, hU1, hU2, hown, hV⟩ := hrel
      by_cases dk : k < C.length
      · have hts := HC30.out C[k] (List.getElem_mem dk)
        have hce : (C.map Value.string)[k]? = some (.string C[k]) := by simp [dk]
        have hst : Hid (plainB (C.take (k + 1)) = plainB (C.take k) ++ [⟨C[k], false, false⟩]) := Lib.hid (by rw [take_snoc' C k dk, plainB_snoc])
        have hpl : Hid ((plainB (C.take k)).length = k) := Lib.hid (by rw [plainB_len, List.length_take]; omega)
        generalize C[k] = t at *
        obtain ⟨_, _, ev, _, _, _, hs⟩ := Sl.of_own hown
        cases ev
        obtain ⟨g, off, rfl, _, hcell⟩ := hs (by first | omega | (simp only; omega))
        have c1 := hcell _ _ hce
        have hb100 : (Vol.at 100000 U (plainB (C.take k)) (if n < k then n else 0) 0).bl.length < 1000000 := by show (plainB (C.take k)).length < 1000000; rw [hpl.out]; omega
        clear hcell hs hce
        by_cases ek : k = n
        · subst ek
          have HF := Lib.hid (rk_Flush hV)
          rw [flush_at, hpl.out] at HF
          clear hV
          go_wp2_with fail
          refine HF.out.mono ?_; rintro e w4 ⟨rfl, hV4, hK4⟩
          have HW := Lib.hid (rk_Write hV4 t (by omega) hb100)
          rw [write_fits 100000 U (plainB (C.take k)) k 0 ⟨t, false, false⟩ (plainB_torn _) (by simp only; omega)] at HW
          have ho4 := hK4.own _ _ _ _ _ _ (by decide) (by decide) hown
          clear hown hK4 hV4 HF c1
          go_wp2_with fail
          refine HW.out.mono ?_; rintro e w5 ⟨rfl, hV5, hK5⟩
          have ho5 := hK5.own _ _ _ _ _ _ (by decide) (by decide) ho4
          clear HW ho4 hK5
          go_wp2_with fail
          refine ⟨⟨k + 1, U + ((t.size : Int) + 4), by go_num, by omega, by omega, by omega, ho5, by rw [hst.out, if_pos (by omega)]; exact hV5⟩, by simp [intOf]; omega⟩
        · have HW := Lib.hid (rk_Write hV t (by omega) hb100)
          rw [write_fits 100000 U (plainB (C.take k)) (if n < k then n else 0) 0 ⟨t, false, false⟩ (plainB_torn _) (by simp only; omega)] at HW
          have hif : Hid ((if n < k + 1 then n else 0) = (if n < k then n else 0)) := Lib.hid (by split <;> split <;> omega)
          have ek2 : ¬ ((k : Int) = (n : Int)) := by omega
          go_wp2_with fail
          refine HW.out.mono ?_; rintro e w5 ⟨rfl, hV5, hK5⟩
          have ho5 := hK5.own _ _ _ _ _ _ (by decide) (by decide) hown
          clear HW hown hK5 hV
          go_wp2_with fail
          refine ⟨⟨k + 1, U + ((t.size : Int) + 4), by go_num, by omega, by omega, by omega, ho5, by rw [hst.out, hif.out]; exact hV5⟩, by simp [intOf]; omega⟩
      · obtain rfl : k = C.length := by omega
        rw [List.take_length] at hV
        by_cases en : C.length = n
        · have HF := Lib.hid (rk_Flush hV)
          rw [flush_at, plainB_len, en] at HF
          have en2 : ((C.length : Int) == (n : Int)) = true := by rw [en]; simp
          clear hV
          go_wp2_with fail
          refine HF.out.mono ?_; rintro e w4 ⟨rfl, hV4, hK4⟩
          have ho4 := hK4.own _ _ _ _ _ _ (by decide) (by decide) hown
          clear hown HF hK4 en2
          go_wp2_with fail
          obtain ⟨U1, L1, s1, g, hcr, hg, e5, U2, s2, htr, he5⟩ := crash_plain 100000 U C n 0 (plainB C).length [kp, pt] hnC
          have hgs := pick_g C.length n kp pt hnC
          rw [← hg] at hgs
          obtain ⟨hg1, hg2, hg3⟩ := hgs
          have Hg3 := Lib.hid hg3
          have hal : Below (w4).heap.size w4 ((w4).alloc (.cells #[.int .i64 (kp), .int .i64 (pt)] 3)) := Below.alloc (Below.refl _ _) (Nat.le_refl _) _
          have HCr := Lib.hid (rk_Crash ((hV4).below hal) [kp, pt] (by intro c hc; simp at hc; rcases hc with rfl | rfl; exact hwk; exact hwp) (.slice (some ⟨(w4).heap.size, 0, none⟩) 2 2) 2 (by exact Sl.lit (Blk.new _ _ _) (by decide) rfl) (by show (plainB C).length < 1000000; rw [plainB_len]; omega))
          rw [at_stand, hcr] at HCr
          have hoA := (ho4).alloc (.cells #[.int .i64 (kp), .int .i64 (pt)] 3)
          clear hcr hg hg3 hal
          go_wp2_with fail
          refine HCr.out.mono ?_; rintro e w5 ⟨rfl, hV5, hK5⟩
          have ho5 := hK5.own _ _ _ _ _ _ (by decide) (by decide) hoA
          have HTr := Lib.hid (rk_Trim hV5)
          rw [htr] at HTr
          clear HCr hoA hK5 hV5 htr
          go_wp2_with fail
          refine HTr.out.mono ?_; rintro e w6 ⟨rfl, hV6, hK6⟩
          have ho6 := hK6.own _ _ _ _ _ _ (by decide) (by decide) ho5
          clear HTr hK6 ho5
          simp only at hV6 ⊢
          have hgl : (C.take g).length = g := by rw [List.length_take]; omega
          have HBl := Lib.hid (reel_blocks _ _ _ _ _ _ hV6 (by rw [plainB_len]; omega))
          rcases he5 with rfl | rfl
          all_goals
            clear hV6
            go_wp2_with fail
            refine HBl.out.mono ?_; rintro e w7 ⟨vg, j, rfl, hse, hog, hV7, hK7⟩
            have hj := seen_plain _ _ hse
            rw [hgl] at hj
            obtain rfl : g = j := hj.symm
            rw [List.take_of_length_le (by rw [plainB_len]; omega), textv_plain] at hog
            have ho7 := hK7.own _ _ _ _ _ _ (by decide) (by decide) ho6
            clear hse hK7 ho6 HBl
            obtain ⟨ag, cg, rfl, _, hgm, _, hsg⟩ := Sl.of_own hog
            obtain ⟨_, _, ev, _, _, _, hsc⟩ := Sl.of_own ho7
            cases ev
            unfold maxLen at hgm
            go_upto_region 27 with (fail)
            go_cut [141] (fun c wx => c = .bool false ∧ wx = w7)
            case first =>
              by_cases k1 : 0 ≤ kp
              · by_cases k2 : kp ≤ (C.length : Int) - n
                · have k3 := Hg3.out k1 k2
                  go_wp2_with fail
                  go_meet
                  case rel => exact ⟨by first | rfl | (simp; omega), rfl⟩
                · go_wp2_with fail
                  go_meet
                  case rel => exact ⟨by first | rfl | (simp; omega), rfl⟩
              · go_wp2_with fail
                go_meet
                case rel => exact ⟨by first | rfl | (simp; omega), rfl⟩
            obtain ⟨rfl, hwc⟩ := hcut
            have HL := Lib.hid (fun m => rv_Len (hV7.drewN m))
            have hb7 := hV7.bel
            clear hV7 hog ho7 hU1 hU2
            subst hwc
            have Hsg := Lib.hid hsg
            have Hsc := Lib.hid hsc
            clear hsg hsc
            go_wp2_with fail
            go_loopw [144] (fun i wr => ∃ (j m : Nat), i = .int .i64 (j) ∧ j ≤ g ∧ Hid (wr = wc.drewN m)) (fun i _ => g - (intOf i).toNat)
            case atStart => exact ⟨0, 0, rfl, by omega, Lib.hid rfl⟩
            obtain ⟨j, m, rfl, hj, hw⟩ := hrel
            by_cases dj : j < g
            · obtain ⟨b1, o1, rfl, hlt1, hc1⟩ := Hsg.out (by omega)
              obtain ⟨b2, o2, rfl, hlt2, hc2⟩ := Hsc.out (by first | omega | (simp only; omega))
              have hjC : j < C.length := by omega
              have d1 : wr.cell? ⟨b1, o1 + j, none⟩ = some (.string C[j]) := by rw [hw.out]; exact hc1 j _ (by simp [hjC, dj])
              have d2 : wr.cell? ⟨b2, o2 + j, none⟩ = some (.string C[j]) := by rw [hw.out]; exact hc2 j _ (by simp [hjC])
              generalize C[j] = sj at *
              clear hc1 hc2 Hsg Hsc
              have i1 : (j : Int) < (g : Int) := by omega
              have i2 : (j : Int) < (C.length : Int) := by omega
              go_wp2_with fail
              go_quiet (fail)
              go_wp2_with fail
              exact ⟨⟨j + 1, _, by go_num, by omega, Lib.hid (by rw [hw.out, World.drewN_drewN])⟩, by simp [intOf]; omega⟩
            · obtain rfl : j = g := by omega
              have HL2 := Lib.hid (HL.out m)
              rw [← hw.out] at HL2
              simp only [Vol.stand, plainB_len, hgl] at HL2
              go_wp2_with fail
              refine HL2.out.mono ?_; rintro e w9 ⟨rfl, rfl⟩
              go_wp2_with fail
              go_ret
              exact ⟨rfl, by rw [hw.out]; exact below_drew hb7 _⟩
        · rw [if_pos (by omega)] at hV
          have en2 : ((C.length : Int) == (n : Int)) = false := by simp; omega
          go_wp2_with fail
          clear en2
          obtain ⟨U1, L1, s1, g, hcr, hg, e5, U2, s2, htr, he5⟩ := crash_plain 100000 U C n 0 (plainB C).length [kp, pt] hnC
          have hgs := pick_g C.length n kp pt hnC
          rw [← hg] at hgs
          obtain ⟨hg1, hg2, hg3⟩ := hgs
          have Hg3 := Lib.hid hg3
          have hal : Below (wr).heap.size wr ((wr).alloc (.cells #[.int .i64 (kp), .int .i64 (pt)] 3)) := Below.alloc (Below.refl _ _) (Nat.le_refl _) _
          have HCr := Lib.hid (rk_Crash ((hV).below hal) [kp, pt] (by intro c hc; simp at hc; rcases hc with rfl | rfl; exact hwk; exact hwp) (.slice (some ⟨(wr).heap.size, 0, none⟩) 2 2) 2 (by exact Sl.lit (Blk.new _ _ _) (by decide) rfl) (by show (plainB C).length < 1000000; rw [plainB_len]; omega))
          rw [at_stand, hcr] at HCr
          have hoA := (hown).alloc (.cells #[.int .i64 (kp), .int .i64 (pt)] 3)
          clear hcr hg hg3 hal
          go_wp2_with fail
          refine HCr.out.mono ?_; rintro e w5 ⟨rfl, hV5, hK5⟩
          have ho5 := hK5.own _ _ _ _ _ _ (by decide) (by decide) hoA
          have HTr := Lib.hid (rk_Trim hV5)
          rw [htr] at HTr
          clear HCr hoA hK5 hV5 htr
          go_wp2_with fail
          refine HTr.out.mono ?_; rintro e w6 ⟨rfl, hV6, hK6⟩
          have ho6 := hK6.own _ _ _ _ _ _ (by decide) (by decide) ho5
          clear HTr hK6 ho5
          simp only at hV6 ⊢
          have hgl : (C.take g).length = g := by rw [List.length_take]; omega
          have HBl := Lib.hid (reel_blocks _ _ _ _ _ _ hV6 (by rw [plainB_len]; omega))
          rcases he5 with rfl | rfl
          all_goals
            clear hV6
            go_wp2_with fail
            refine HBl.out.mono ?_; rintro e w7 ⟨vg, j, rfl, hse, hog, hV7, hK7⟩
            have hj := seen_plain _ _ hse
            rw [hgl] at hj
            obtain rfl : g = j := hj.symm
            rw [List.take_of_length_le (by rw [plainB_len]; omega), textv_plain] at hog
            have ho7 := hK7.own _ _ _ _ _ _ (by decide) (by decide) ho6
            clear hse hK7 ho6 HBl
            obtain ⟨ag, cg, rfl, _, hgm, _, hsg⟩ := Sl.of_own hog
            obtain ⟨_, _, ev, _, _, _, hsc⟩ := Sl.of_own ho7
            cases ev
            unfold maxLen at hgm
            go_upto_region 27 with (fail)
            go_cut [141] (fun c wx => c = .bool false ∧ wx = w7)
            case first =>
              by_cases k1 : 0 ≤ kp
              · by_cases k2 : kp ≤ (C.length : Int) - n
                · have k3 := Hg3.out k1 k2
                  go_wp2_with fail
                  go_meet
                  case rel => exact ⟨by first | rfl | (simp; omega), rfl⟩
                · go_wp2_with fail
                  go_meet
                  case rel => exact ⟨by first | rfl | (simp; omega), rfl⟩
              · go_wp2_with fail
                go_meet
                case rel => exact ⟨by first | rfl | (simp; omega), rfl⟩
            obtain ⟨rfl, hwc⟩ := hcut
            have HL := Lib.hid (fun m => rv_Len (hV7.drewN m))
            have hb7 := hV7.bel
            clear hV7 hog ho7 hU1 hU2
            subst hwc
            have Hsg := Lib.hid hsg
            have Hsc := Lib.hid hsc
            clear hsg hsc
            go_wp2_with fail
            go_loopw [144] (fun i wr => ∃ (j m : Nat), i = .int .i64 (j) ∧ j ≤ g ∧ Hid (wr = wc.drewN m)) (fun i _ => g - (intOf i).toNat)
            case atStart => exact ⟨0, 0, rfl, by omega, Lib.hid rfl⟩
            obtain ⟨j, m, rfl, hj, hw⟩ := hrel
            by_cases dj : j < g
            · obtain ⟨b1, o1, rfl, hlt1, hc1⟩ := Hsg.out (by omega)
              obtain ⟨b2, o2, rfl, hlt2, hc2⟩ := Hsc.out (by first | omega | (simp only; omega))
              have hjC : j < C.length := by omega
              have d1 : wr.cell? ⟨b1, o1 + j, none⟩ = some (.string C[j]) := by rw [hw.out]; exact hc1 j _ (by simp [hjC, dj])
              have d2 : wr.cell? ⟨b2, o2 + j, none⟩ = some (.string C[j]) := by rw [hw.out]; exact hc2 j _ (by simp [hjC])
              generalize C[j] = sj at *
              clear hc1 hc2 Hsg Hsc
              have i1 : (j : Int) < (g : Int) := by omega
              have i2 : (j : Int) < (C.length : Int) := by omega
              go_wp2_with fail
              go_quiet (fail)
              go_wp2_with fail
              exact ⟨⟨j + 1, _, by go_num, by omega, Lib.hid (by rw [hw.out, World.drewN_drewN])⟩, by simp [intOf]; omega⟩
            · obtain rfl : j = g := by omega
              have HL2 := Lib.hid (HL.out m)
              rw [← hw.out] at HL2
              simp only [Vol.stand, plainB_len, hgl] at HL2
              go_wp2_with fail
              refine HL2.out.mono ?_; rintro e w9 ⟨rfl, rfl⟩
              go_wp2_with fail
              go_ret
              exact ⟨rfl, by rw [hw.out]; exact below_drew hb7 _⟩
namespace ReelTorn
open Go.ChangeShapes Go.WideShapes Go.ChangeAt Go.RowKit
set_option linter.unusedVariables false
theorem own : ownKnob Try.prog.godebug = none := by kernel_rfl
theorem laidOut : laidOutB Try.prog = true := by kernel_rfl
set_option maxRecDepth 100000 in
theorem lifted (os : Os) (started : os.Started) (H : Type) (enc : TypeId × Value → H) :
    ReturnsInHanded {} Try.checked os 6 .any (Rows.reelTornSpec.pre6 enc Try.prog Try.f6 Rows.reelTornRow.domain false) (Rows.reelTornSpec.post enc Try.prog Try.f6 false true false false) := by
  refine returnsInHanded_of_change (C := Try.checked) own started (by kernel_rfl) Try.func6
    (ChangeSpec.witness6 (enc := enc) (C := Try.checked) false ⟨#[], #[.slice none 0 0, .slice none 0 0, .int .i64 0, .int .i64 0], []⟩ 8 (by kernel_rfl) (by kernel_rfl) (by kernel_rfl) (by kernel_rfl)) ?_
  intro W base args ds gs before hval0 hW hcnd _
  have hval : ∀ (j : Nat) t v, Try.f6.params[j]? = some t → args[j]? = some v → Value.okWide Try.prog W .any base t v := hval0
  have hW' := hW
  obtain ⟨p, q, hA0, hV, rfl, hfz, hnd⟩ := hW
  have hA : DataW.TrodAll enc Try.prog W 0 (fun _ => true) true Try.f6.params.toList args.toList ds p := hA0
  rw [Try.params6] at hA hval
  obtain ⟨v0, vs0, d0, ds0, p0, q0, hargs, rfl, rfl, h0, r0⟩ := trodAll_cons hA
  obtain ⟨v1, vs1, d1, ds1, p1, q1, rfl, rfl, rfl, h1, r1⟩ := trodAll_cons r0
  obtain ⟨v2, vs2, d2, ds2, p2, q2, rfl, rfl, rfl, h2, r2⟩ := trodAll_cons r1
  obtain ⟨v3, vs3, d3, ds3, p3, q3, rfl, rfl, rfl, h3, r3⟩ := trodAll_cons r2
  obtain ⟨rfl, rfl, rfl⟩ := trodAll_nil r3
  obtain rfl : args = #[v0, v1, v2, v3] := by cases args; simp_all
  obtain ⟨rfl, rfl⟩ := trodVars_none hV
  have lt0 : ∀ x ∈ p0, x.block < W.heap.size := by obtain ⟨m, hm⟩ := h0; exact DataW.trod_lt m _ _ _ hm
  obtain ⟨x0, w0⟩ := arg_open (Kd.slice .str) h0 (hval 0 _ v0 rfl rfl) (by kernel_rfl)
  have lt1 : ∀ x ∈ p1, x.block < W.heap.size := by obtain ⟨m, hm⟩ := h1; exact DataW.trod_lt m _ _ _ hm
  obtain ⟨x1, w1⟩ := arg_open (Kd.slice .str) h1 (hval 1 _ v1 rfl rfl) (by kernel_rfl)
  have lt2 : ∀ x ∈ p2, x.block < W.heap.size := by obtain ⟨m, hm⟩ := h2; exact DataW.trod_lt m _ _ _ hm
  obtain ⟨x2, w2⟩ := arg_open (Kd.int .i64) h2 (hval 2 _ v2 rfl rfl) (by kernel_rfl)
  have lt3 : ∀ x ∈ p3, x.block < W.heap.size := by obtain ⟨m, hm⟩ := h3; exact DataW.trod_lt m _ _ _ hm
  obtain ⟨x3, w3⟩ := arg_open (Kd.int .i64) h3 (hval 3 _ v3 rfl rfl) (by kernel_rfl)
  clear hA0 hval0
  refine (ReelTorn_walk W v0 v1 v2 v3 x0 w0 x1 w1 x2 w2 x3 w3).mono fun e W' ⟨he, bel⟩ => ?_
  subst he
  exact ⟨_, rfl, _, _, _, [], _, [], hW', trodAll_mk1 (shut_bool (by kernel_rfl) _), (trodAll_cons_mk (Below.trod laidOut (by kernel_rfl) (of_decide_eq_true (by kernel_rfl)) h0 bel lt0) (trodAll_cons_mk (Below.trod laidOut (by kernel_rfl) (of_decide_eq_true (by kernel_rfl)) h1 bel lt1) (trodAll_cons_mk (Below.trod laidOut (by kernel_rfl) (of_decide_eq_true (by kernel_rfl)) h2 bel lt2) (trodAll_cons_mk (Below.trod laidOut (by kernel_rfl) (of_decide_eq_true (by kernel_rfl)) h3 bel lt3) trodAll_mk0)))), rfl, bel.frame _, fun h => by cases h⟩

theorem over : Rows.reelTornRow.holds Try.pinned (OpenSpec.ofChange Rows.reelTornSpec) :=
  OpenClaim.holds_of_wide 6 Try.f6 rfl rfl rfl rfl rfl rfl rfl ⟨rfl, rfl, rfl, rfl, rfl⟩ rfl rfl rfl rfl rfl (by kernel_rfl) Try.func6 (by kernel_rfl)
    (of_decide_eq_true (by kernel_rfl)) (by unfold Func.isWrapper; rw [if_neg (of_decide_eq_false (by kernel_rfl))]; exact ⟨rfl, rfl⟩)
    (fun os started H enc _ => lifted os started H enc)
/-- THE STATEMENT. -/
theorem proved : Rows.ReelTornSaid := over
#print axioms proved
end ReelTorn
end Go.Proofs.Ytdgaknpocbnomaa
