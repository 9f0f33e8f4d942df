/- The document's Frame, Open and Scan, and Same. No condition. -/
import Derived.Test.YtabolnflmhfdhaaSealR
set_option linter.unusedSimpArgs false
set_option linter.unusedVariables false
namespace Go.Proofs.Ytabolnflmhfdhaa
open Go.RowKit
set_option maxHeartbeats 4000000
set_option maxRecDepth 100000

theorem ref_frame (s : ByteArray) (hs : s.size ≤ 900000) (w : World) : Calls Try.prog 21 #[.string s] w (Fresh (.string (bs (Seal.frame s.data.toList))) w) := by
  have hl : s.data.toList.length = s.size := by simp
  have HF := Lib.hid (fun w => ref_four s.size (by omega) w)
  have hsz : (bs (Seal.four s.size) ++ s).size = 4 + s.size := by rw [ByteArray.size_append, bs_size, Seal.four_length]
  have HS := Lib.hid (fun w => ref_sum (bs (Seal.four s.size) ++ s) (by omega) w)
  have h4 : (bs (Seal.four s.size)).size = 4 := by rw [bs_size, Seal.four_length]
  obtain ⟨q, hq⟩ : ∃ q, q = Seal.sumL (bs (Seal.four s.size) ++ s).data.toList := ⟨_, rfl⟩
  rw [← hq] at HS
  have hq2 : q < 4294967296 := by rw [hq]; exact Seal.sumL_lt _
  have HF2 := Lib.hid (fun w => ref_four q hq2 w)
  have h42 : (bs (Seal.four q)).size = 4 := by rw [bs_size, Seal.four_length]
  have hfr : bs (Seal.four s.size) ++ bs (Seal.four q) ++ s = bs (Seal.frame s.data.toList) := by
    unfold Seal.frame
    rw [hl, bs_append, hq, bs_app, bs_app, bs_toList]
  have Hfr := Lib.hid hfr
  have hsz2 : (bs (Seal.four s.size) ++ bs (Seal.four q)).size = 8 := by rw [ByteArray.size_append, h4, h42]
  have hm : (s.size : Int) % 4294967296 = s.size := Int.emod_eq_of_lt (by omega) (by omega)
  clear hq hfr hl
  generalize bs (Seal.four s.size) = h at *
  generalize bs (Seal.four q) = f at *
  have hb1 : h.size + s.size ≤ 9223372036854775807 := by omega
  have hb2 : h.size + f.size ≤ 9223372036854775807 := by omega
  have hb3 : (h ++ f).size + s.size ≤ 9223372036854775807 := by omega
  (go_enter Try.func21, Try.ntmps21)
  go_wp2_with fail
  refine (HF.out _).mono ?_; rintro e w1 ⟨rfl, hB1⟩
  go_wp2_with fail
  refine (HS.out _).mono ?_; rintro e w2 ⟨rfl, hB2⟩
  have hB12 := hB1.trans (hB2.mono hB1.size)
  go_wp2_with fail
  refine (HF2.out _).mono ?_; rintro e w3 ⟨rfl, hB3⟩
  have hB := hB12.trans (hB3.mono hB12.size)
  go_wp2_with fail
  go_ret
  exact ⟨by rw [← Hfr.out]; rfl, hB⟩
theorem same_any (a b : Value) (n : Nat) (xs : List ByteArray) (hn : n = xs.length) (w : World) (h1 : Sl w a n 1 (xs.map .string)) (h2 : Sl w b n 1 (xs.map .string)) : Calls Try.prog 19 #[a, b] w (Drew (.int .i64 (0)) w) := by
  obtain ⟨ao, ac, rfl, _, hm, _, hc1⟩ := h1
  obtain ⟨bo, bc, rfl, _, _, _, hc2⟩ := h2
  unfold maxLen at hm
  have Hn := Lib.hid hn
  clear hn
  have H1 := Lib.hid hc1
  have H2 := Lib.hid hc2
  clear hc1 hc2
  (go_enter Try.func19, Try.ntmps19)
  go_wp2_with fail
  go_loopw [13] (fun i wr => ∃ (j m : Nat), i = .int .i64 (j) ∧ j ≤ n ∧ Hid (wr = w.drewN m)) (fun i _ => n - (intOf i).toNat)
  case atStart => exact ⟨0, 0, rfl, by omega, Lib.hid rfl⟩
  obtain ⟨j, m, rfl, hj, hw⟩ := hrel
  by_cases d : j < n
  · obtain ⟨b1, o1, rfl, _, hc1⟩ := H1.out (by omega)
    obtain ⟨b2, o2, rfl, _, hc2⟩ := H2.out (by omega)
    have hjx : j < xs.length := by have := Hn.out; omega
    have d1 : wr.cell? ⟨b1, o1 + j, none⟩ = some (.string xs[j]) := by rw [hw.out]; exact hc1 j _ (by simp [hjx])
    have d2 : wr.cell? ⟨b2, o2 + j, none⟩ = some (.string xs[j]) := by rw [hw.out]; exact hc2 j _ (by simp [hjx])
    generalize xs[j] = sj at *
    clear hc1 hc2 H1 H2
    have i1 : (j : Int) < (n : Int) := by omega
    go_wp2_with fail
    go_quiet (fail)
    go_wp2_with fail
    exact ⟨⟨j + 1, _, by go_num, by omega, Lib.hid (by rw [hw.out, World.drewN_drewN])⟩, by simp [intOf]; omega⟩
  · go_wp2_with fail
    go_ret
    exact ⟨m, rfl, by rw [hw.out]⟩
theorem ref_open (s : ByteArray) (hs : s.size ≤ 900000) (w : World) : Calls Try.prog 17 #[.string s] w (Fresh (openV s) w) := by
  have hlen : s.data.toList.length = s.size := by simp
  by_cases c1 : s.size < 8
  · have e : openV s = .tuple #[.string ⟨#[]⟩, .int .i64 (0), .int .i64 (2)] := by unfold openV Seal.openL; rw [if_pos (by rw [hlen]; exact c1)]; rfl
    rw [e]
    clear e
    (go_enter Try.func17, Try.ntmps17)
    go_wp2_with fail
    go_ret3
    exact ⟨rfl, (by repeat' (first | exact Below.refl _ _ | assumption | refine Below.setCell ?_ (by first | omega | (simp; done) | (simp; omega)) _ | refine Below.alloc ?_ (by first | omega | (simp; done) | (simp; omega)) _ | refine below_drew ?_ _ | apply Below.drew))⟩
  · have hn0 := Seal.numb_lt s.data.toList
    have hnum := ref_number (s.extract 0 4) (by simp; omega)
    rw [show (s.extract 0 4).data.toList = s.data.toList.take 4 by rw [extract_bs, bs_toList]; simp, Seal.numb_take _ _ (Nat.le_refl _)] at hnum
    have Hnum := Lib.hid hnum
    clear hnum
    obtain ⟨n, hn⟩ : ∃ n, n = Seal.numb s.data.toList := ⟨_, rfl⟩
    rw [← hn] at Hnum hn0
    have c1' : (4 : Int) ≤ s.size := by omega
    by_cases c2 : 1048576 < n
    · have e : openV s = .tuple #[.string ⟨#[]⟩, .int .i64 (0), .int .i64 (11)] := by unfold openV Seal.openL; rw [if_neg (by rw [hlen]; exact c1), if_pos (by rw [← hn]; exact c2)]; rfl
      rw [e]
      clear e hn
      (go_enter Try.func17, Try.ntmps17)
      go_wp2_with fail
      refine (Hnum.out _).mono ?_; rintro e w1 ⟨rfl, hB1⟩
      go_wp2_with fail
      go_ret3
      exact ⟨rfl, hB1⟩
    · by_cases c3 : s.size - 8 < n
      · have e : openV s = .tuple #[.string ⟨#[]⟩, .int .i64 (0), .int .i64 (2)] := by unfold openV Seal.openL; rw [if_neg (by rw [hlen]; exact c1), if_neg (by rw [← hn]; exact c2), if_pos (by rw [← hn, hlen]; exact c3)]; rfl
        rw [e]
        clear e hn
        have c3' : (s.size : Int) < 8 + n := by omega
        (go_enter Try.func17, Try.ntmps17)
        go_wp2_with fail
        refine (Hnum.out _).mono ?_; rintro e w1 ⟨rfl, hB1⟩
        go_wp2_with fail
        go_ret3
        exact ⟨rfl, hB1⟩
      · have c3' : 8 + (n : Int) ≤ s.size := by omega
        have hfr := ref_frame (s.extract 8 (8 + n)) (by simp; omega)
        rw [show (s.extract 8 (8 + n)).data.toList = (s.data.toList.drop 8).take n by rw [extract_bs, bs_toList]; simp] at hfr
        have Hfr := Lib.hid hfr
        clear hfr
        have htest := Seal.frame_test (s := s.data.toList) (by rw [hlen]; omega) (by rw [hlen, ← hn]; omega)
        rw [← hn] at htest
        obtain ⟨F, hF⟩ : ∃ F, F = bs (Seal.frame ((s.data.toList.drop 8).take n)) := ⟨_, rfl⟩
        rw [← hF] at Hfr
        have hcmp : F = s.extract 0 (8 + n) ↔ Seal.frame ((s.data.toList.drop 8).take n) = s.data.toList.take (8 + n) := by
          rw [hF, extract_bs]
          constructor
          · intro h
            have := congrArg (fun x : ByteArray => x.data.toList) h
            simpa [bs_toList] using this
          · intro h
            rw [h]
            simp
        obtain ⟨eq, heq⟩ : ∃ b : Bool, b = decide (F = s.extract 0 (8 + n)) := ⟨_, rfl⟩
        obtain ⟨res, hres⟩ : ∃ r, r = openV s := ⟨_, rfl⟩
        have Hres : Hid (res = if eq = true then .tuple #[.string (s.extract 8 (8 + n)), .int .i64 ((8 + n : Nat)), .int .i64 (0)] else .tuple #[.string ⟨#[]⟩, .int .i64 (0), .int .i64 (4)]) := Lib.hid (by
          rw [hres]
          unfold openV Seal.openL
          rw [if_neg (by rw [hlen]; exact c1), if_neg (by rw [← hn]; exact c2), if_neg (by rw [← hn, hlen]; exact c3), ← hn]
          by_cases ht : Seal.sumL (s.data.toList.take 4 ++ (s.data.toList.drop 8).take n) = Seal.numb (s.data.toList.drop 4)
          · rw [if_pos ht, if_pos (by rw [heq]; exact decide_eq_true (hcmp.2 (htest.2 ht))), extract_bs, Nat.add_sub_cancel_left]
            rfl
          · rw [if_neg ht, if_neg (by rw [heq]; intro h; exact ht (htest.1 (hcmp.1 (of_decide_eq_true h))))]
            rfl)
        rw [← hres]
        have Hbeq : Hid ((F.toList == (s.extract 0 (8 + n)).toList) = eq) := Lib.hid (by
          rw [heq, ByteArray.toList_eq, ByteArray.toList_eq, Bool.eq_iff_iff, beq_iff_eq, decide_eq_true_iff]
          exact ⟨fun h => by rw [← bs_of F, h, bs_of], fun h => by rw [h]⟩)
        clear htest hcmp hF hres heq hn hlen
        (go_enter Try.func17, Try.ntmps17)
        go_wp2_with fail
        refine (Hnum.out _).mono ?_; rintro e w1 ⟨rfl, hB1⟩
        go_wp2_with fail
        refine Inv.region_inv2 (n := 7) (by kernel_rfl) [some 24, some 25, some 26, some 27, some 28, some 29, some 30] rfl (by kernel_rfl) (by kernel_rfl) rfl (by rfl)
          (fun d v w => match d with
            | 0 => v = .string (s.extract 8 (8 + n))
            | 1 => v = Value.string F
            | 2 => v = .string s
            | 3 => v = .int .i64 ((n : Int))
            | 4 => v = .int .i64 (8 + (n : Int))
            | 5 => v = Value.string (s.extract 0 (8 + n))
            | 6 => v = Value.bool (!eq)
            | _ => True) (fun listed w => Below w1.heap.size w1 w) ?_ ?_ ?_
        · exact below_drew (Below.refl _ _) 1
        · intro i o listed a vs w ho hls hl hdep hcl hout hev hT hG
          have hi : i < 7 := (Array.getElem?_eq_some_iff.1 ho).1
          have iN : i = 0 ∨ i = 1 ∨ i = 2 ∨ i = 3 ∨ i = 4 ∨ i = 5 ∨ i = 6 := by omega
          rcases iN with rfl | rfl | rfl | rfl | rfl | rfl | rfl
          · simp only [List.getElem?_toArray, List.getElem?_cons_zero, List.getElem?_cons_succ, Option.some.injEq] at ho
            subst ho
            refine ⟨rfl, fun K hK => ?_⟩
            have q6 := (hout 6 (by decide)).trans (rfl : _ = (.string (s.extract 8 (8 + n)) : Value))
            try simp only [Act.eval, Array.getD_eq_getD_getElem?] at q6
            unfold Oper.wp
            simp [execOp, q6, go_sem, Oper.upon]
            exact hK _ _ hT hG rfl
          · simp only [List.getElem?_toArray, List.getElem?_cons_zero, List.getElem?_cons_succ, Option.some.injEq] at ho
            subst ho
            refine ⟨rfl, fun K hK => ?_⟩
            have dp0 := hdep ⟨0, .data⟩ (by simp) rfl
            have ep0 := hev 0 24 rfl dp0
            rw [hT 0 dp0] at ep0
            try simp only [Act.eval, Array.getD_eq_getD_getElem?] at ep0
            unfold Oper.wp
            simp [execOp, ep0, go_sem, Oper.upon]
            refine (Hfr.out _).mono ?_; rintro e w' ⟨rfl, hb⟩
            have hk : ∀ j, listed.getD j false = true → (fun d v w => match d with
                | 0 => v = .string (s.extract 8 (8 + n))
                | 1 => v = Value.string F
                | 2 => v = .string s
                | 3 => v = .int .i64 ((n : Int))
                | 4 => v = .int .i64 (8 + (n : Int))
                | 5 => v = Value.string (s.extract 0 (8 + n))
                | 6 => v = Value.bool (!eq)
                | _ => True : Nat → Value → World → Prop) j (vs j) (w') := by
              intro j hj
              have h := hT j hj
              match j, hj, h with
              | 0, hj, h => exact h
              | 1, hj, h => exact absurd hj (by rw [hl]; decide)
              | 2, hj, h => exact h
              | 3, hj, h => exact h
              | 4, hj, h => exact h
              | 5, hj, h => exact h
              | 6, hj, h => exact h
              | d + 7, hj, h => exact trivial
            exact hK _ _ hk (hG.trans (hb.mono hG.size)) rfl
          · simp only [List.getElem?_toArray, List.getElem?_cons_zero, List.getElem?_cons_succ, Option.some.injEq] at ho
            subst ho
            refine ⟨rfl, fun K hK => ?_⟩
            have q0 := (hout 0 (by decide)).trans (rfl : _ = (.string s : Value))
            try simp only [Act.eval, Array.getD_eq_getD_getElem?] at q0
            unfold Oper.wp
            simp [execOp, q0, go_sem, Oper.upon]
            exact hK _ _ hT hG rfl
          · simp only [List.getElem?_toArray, List.getElem?_cons_zero, List.getElem?_cons_succ, Option.some.injEq] at ho
            subst ho
            refine ⟨rfl, fun K hK => ?_⟩
            have q5 := (hout 5 (by decide)).trans (rfl : _ = (.int .i64 ((n : Int)) : Value))
            try simp only [Act.eval, Array.getD_eq_getD_getElem?] at q5
            unfold Oper.wp
            simp [execOp, q5, go_sem, Oper.upon]
            exact hK _ _ hT hG rfl
          · simp only [List.getElem?_toArray, List.getElem?_cons_zero, List.getElem?_cons_succ, Option.some.injEq] at ho
            subst ho
            refine ⟨rfl, fun K hK => ?_⟩
            have dp3 := hdep ⟨3, .data⟩ (by simp) rfl
            have ep3 := hev 3 27 rfl dp3
            rw [hT 3 dp3] at ep3
            try simp only [Act.eval, Array.getD_eq_getD_getElem?] at ep3
            unfold Oper.wp
            simp [execOp, ep3, go_sem, Oper.upon]
            rw [wrap_small _ (by omega) (by omega)]
            exact hK _ _ hT hG rfl
          · simp only [List.getElem?_toArray, List.getElem?_cons_zero, List.getElem?_cons_succ, Option.some.injEq] at ho
            subst ho
            refine ⟨rfl, fun K hK => ?_⟩
            have dp2 := hdep ⟨2, .data⟩ (by simp) rfl
            have ep2 := hev 2 26 rfl dp2
            rw [hT 2 dp2] at ep2
            have dp4 := hdep ⟨4, .data⟩ (by simp) rfl
            have ep4 := hev 4 28 rfl dp4
            rw [hT 4 dp4] at ep4
            try simp only [Act.eval, Array.getD_eq_getD_getElem?] at ep2 ep4
            unfold Oper.wp
            simp [execOp, ep2, ep4, go_sem, Oper.upon]
            rw [if_pos ⟨by omega, by omega⟩, show (8 + (n : Int)).toNat = 8 + n by omega]
            exact hK _ _ hT hG rfl
          · simp only [List.getElem?_toArray, List.getElem?_cons_zero, List.getElem?_cons_succ, Option.some.injEq] at ho
            subst ho
            refine ⟨rfl, fun K hK => ?_⟩
            have dp1 := hdep ⟨1, .data⟩ (by simp) rfl
            have ep1 := hev 1 25 rfl dp1
            rw [hT 1 dp1] at ep1
            have dp5 := hdep ⟨5, .data⟩ (by simp) rfl
            have ep5 := hev 5 29 rfl dp5
            rw [hT 5 dp5] at ep5
            try simp only [Act.eval, Array.getD_eq_getD_getElem?] at ep1 ep5
            unfold Oper.wp
            simp [execOp, ep1, ep5, go_sem, Oper.upon]
            have hbe : (!F.toList == (s.extract 0 (8 + n)).toList) = !eq := by rw [Hbeq.out]
            rw [hbe]
            exact hK _ _ hT hG rfl
        intro listed vs wR hall hT hG
        generalize hfr : Inv.frA _ _ _ _ = fr
        simp [Inv.frA, Act.put] at hfr
        have ex0 : vs 0 = .string (s.extract 8 (8 + n)) := hT 0 (by omega)
        try rw [ex0] at hfr
        clear ex0
        have ex1 : vs 1 = Value.string F := hT 1 (by omega)
        try rw [ex1] at hfr
        clear ex1
        have ex2 : vs 2 = .string s := hT 2 (by omega)
        try rw [ex2] at hfr
        clear ex2
        have ex3 : vs 3 = .int .i64 ((n : Int)) := hT 3 (by omega)
        try rw [ex3] at hfr
        clear ex3
        have ex4 : vs 4 = .int .i64 (8 + (n : Int)) := hT 4 (by omega)
        try rw [ex4] at hfr
        clear ex4
        have ex5 : vs 5 = Value.string (s.extract 0 (8 + n)) := hT 5 (by omega)
        try rw [ex5] at hfr
        clear ex5
        have ex6 : vs 6 = Value.bool (!eq) := hT 6 (by omega)
        try rw [ex6] at hfr
        clear ex6
        clear hT hall
        subst hfr
        have hB := hB1.trans (hG.mono hB1.size)
        have hr := Hres.out
        cases eq with
        | true =>
          rw [if_pos rfl] at hr
          have Hr := Lib.hid hr
          clear hr Hres
          go_wp2_with fail
          go_ret3
          exact ⟨by rw [Hr.out]; rfl, hB⟩
        | false =>
          rw [if_neg (by simp)] at hr
          have Hr := Lib.hid hr
          clear hr Hres
          go_wp2_with fail
          go_ret3
          exact ⟨by rw [Hr.out]; rfl, hB⟩
theorem ref_open' (s : ByteArray) (hs : s.size ≤ 900000) (l : List UInt8) (hl : s.data.toList = l) (x : List UInt8) (k q : Nat) (h : Seal.openL l = (x, k, q)) (w : World) :
    Calls Try.prog 17 #[.string s] w (Fresh (.tuple #[.string (bs x), .int .i64 (k), .int .i64 (q)]) w) := by
  have := ref_open s hs w
  unfold openV at this
  rw [hl, h] at this
  exact this
theorem ref_scan (s : ByteArray) (hs : s.size ≤ 900000) (w : World) : Calls Try.prog 18 #[.string s] w (ScanP s w) := by
  (go_enter Try.func18, Try.ntmps18)
  go_wp2_with fail
  go_loopw [4, 5, 6] (fun v i t wr => ∃ (a : Nat) (L : List (List UInt8)), a ≤ s.size ∧ i = .int .i64 (a) ∧ t = .int .i64 ((L.length : Nat)) ∧ L.length * 8 ≤ a ∧ Hid (Seal.scan s.data.toList = (L ++ (Seal.scan (s.data.toList.drop a)).1, a + (Seal.scan (s.data.toList.drop a)).2)) ∧
      wr.ownsRow w.heap.size 9 1 v L.length (strs L) ∧ Below w.heap.size w wr) (fun _ i _ _ => s.size - (intOf i).toNat)
  case atStart => exact ⟨0, [], by omega, rfl, rfl, by simp, by refine Lib.hid ?_; rw [List.drop_zero]; simp, World.ownsRow_lit _ #[] 0 (Nat.le_refl _) (by decide) rfl, Below.alloc (Below.refl _ _) (Nat.le_refl _) _⟩
  obtain ⟨a, L, ha, rfl, rfl, hL8, hscan, hown, hB⟩ := hrel
  have hts : (L.length : Int) ≤ s.size := by omega
  obtain ⟨x, k, q, ho⟩ : ∃ x k q, Seal.openL (s.data.toList.drop a) = (x, k, q) := ⟨_, _, _, rfl⟩
  have hop := ref_open' (s.extract a s.size) (by rw [extract_bs, bs_size]; simp; omega) _ (extract_drop s a) x k q ho
  have Hop := Lib.hid hop
  clear hop
  obtain ⟨av, cv, rfl, _, _, _, _⟩ := Sl.of_own hown
  by_cases hq : q = 0
  · subst hq
    obtain ⟨p1, p2⟩ := Seal.open_pos (s := s.data.toList.drop a) (by rw [ho])
    rw [ho] at p1 p2
    have hp3 : k + a ≤ s.size := by simp at p2; omega
    have hst := Seal.scan_step (s := s.data.toList.drop a) (by rw [ho])
    rw [ho] at hst
    have hscan2 : Hid (Seal.scan s.data.toList = ((L ++ [x]) ++ (Seal.scan (s.data.toList.drop (a + k))).1, (a + k) + (Seal.scan (s.data.toList.drop (a + k))).2)) := by
      refine Lib.hid ?_
      have := hscan.out
      rw [hst, List.drop_drop] at this
      rw [this]
      simp [Nat.add_assoc]
    have p1' : 8 ≤ k := p1
    clear hscan hst p1 p2
    have Ho := Lib.hid ho
    clear ho
    go_wp2_with fail
    refine (Hop.out _).mono ?_; rintro e w1 ⟨rfl, hB1⟩
    have hB2 := hB.trans (hB1.mono hB.size)
    have ho1 := own_keep hown (only_of_below hB1 (fun _ => False)) (fun _ _ e => e)
    clear hB hown hB1
    go_wp2_with (at_builtin; refine wpl_app rfl rfl ei_str w.heap.size rfl (ho1.alloc _) [.string (bs x)] rfl rfl (Blk.new _ _ _) rfl (by omega) (by unfold maxLen; omega) (by have := hB2.size; simp; omega) ?_; intro v' w2 ho2 hk2)
    have hB3 := below_many (hB2.alloc hB2.size (.cells #[.string (bs x)] 9)) hk2 (own_ge ho1)
    exact ⟨⟨a + k, L ++ [x], by omega, by go_num, by simp, by simp; omega, hscan2, by simpa [strs] using ho2, hB3⟩, by simp [intOf]; omega⟩
  · have hst := Seal.scan_stop (s := s.data.toList.drop a) (by rw [ho]; exact hq)
    have hscan2 : Hid (Seal.scan s.data.toList = (L, a)) := by
      refine Lib.hid ?_
      have := hscan.out
      rw [hst] at this
      rw [this]
      simp
    have hq' : ((q : Int) != 0) = true := by rw [bne_iff_ne]; omega
    have Ho := Lib.hid ho
    clear ho hq hscan hst
    go_wp2_with fail
    refine (Hop.out _).mono ?_; rintro e w1 ⟨rfl, hB1⟩
    have hB2 := hB.trans (hB1.mono hB.size)
    have ho1 := own_keep hown (only_of_below hB1 (fun _ => False)) (fun _ _ e => e)
    go_wp2_with fail
    go_ret2
    unfold ScanP
    rw [hscan2.out]
    exact ⟨_, rfl, ho1, hB2⟩
end Go.Proofs.Ytabolnflmhfdhaa
