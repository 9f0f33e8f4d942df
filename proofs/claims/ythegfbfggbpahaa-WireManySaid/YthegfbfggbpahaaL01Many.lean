/- Several at once are one behind the other: the statement WireMany holds of all arguments. No condition. -/
import Derived.Test.YthegfbfggbpahaaWireArgs
set_option linter.unusedSimpArgs false
set_option linter.unusedVariables false
namespace Go.Proofs.Ythegfbfggbpahaa
open Go.RowKit
set_option maxHeartbeats 1000000
set_option maxRecDepth 100000


def Wire.unums (l : List Nat) : List UInt8 := l.flatMap Wire.num
theorem ei_str : EI Try.prog 34 9 (.string ⟨#[]⟩) 1 16 := EI.mk' Try.underlying34 (by kernel_rfl) rfl (by decide)
theorem WireMany_walk (W : World) (v0 v1 v2 v3 : Value) (x0 : (Kd.slice (.int .u64)).den) (w0 : (Kd.slice (.int .u64)).Arg W v0 x0) (x1 : (Kd.slice (.int .i64)).den) (w1 : (Kd.slice (.int .i64)).Arg W v1 x1)
    (x2 : (Kd.slice .bool).den) (w2 : (Kd.slice .bool).Arg W v2 x2) (x3 : (Kd.slice .str).den) (w3 : (Kd.slice .str).Arg W v3 x3) : Calls Try.prog 4 #[v0, v1, v2, v3] W (Done W) := by
  obtain ⟨ao0, c0, ls, rfl, p0, q0, b0, s0⟩ := sl_u64 w0
  obtain ⟨ao1, c1, rfl, p1, q1, b1, s1⟩ := sl_i64 w1
  obtain ⟨ao2, c2, rfl, p2, q2, s2⟩ := sl_bool w2
  obtain ⟨ao3, c3, rfl, p3, q3, b3, s3⟩ := sl_str w3
  obtain ⟨ns, rfl⟩ : ∃ ns : List Int, ns = x1 := ⟨_, rfl⟩
  obtain ⟨ts, rfl⟩ : ∃ ts : List Bool, ts = x2 := ⟨_, rfl⟩
  obtain ⟨ss, rfl⟩ : ∃ ss : List ByteArray, ss = x3 := ⟨_, rfl⟩
  unfold maxLen at q0 q1 q2 q3
  clear w0 w1 w2 w3
  (go_enter Try.func4, Try.ntmps4)
  go_wp2_with fail
  go_quiet (fail)
  obtain ⟨wd, hwd⟩ : ∃ wd, wd = W.drewN nq := ⟨_, rfl⟩
  rw [← hwd]
  have hBd : Below W.heap.size W wd := hwd ▸ below_drew (Below.refl _ _) nq
  clear hwd
  obtain ⟨m0, hm0, hm0l, hm09⟩ : ∃ m : Nat, (if (9 : Int) < (ls.length : Int) then (9 : Int) else (ls.length : Int)) = m ∧ m ≤ ls.length ∧ m ≤ 9 := ⟨min 9 ls.length, by split <;> omega, by omega, by omega⟩
  obtain ⟨m1, hm1, hm1l, hm19⟩ : ∃ m : Nat, (if (9 : Int) < (ns.length : Int) then (9 : Int) else (ns.length : Int)) = m ∧ m ≤ ns.length ∧ m ≤ 9 := ⟨min 9 ns.length, by split <;> omega, by omega, by omega⟩
  obtain ⟨m2, hm2, hm2l, hm29⟩ : ∃ m : Nat, (if (9 : Int) < (ts.length : Int) then (9 : Int) else (ts.length : Int)) = m ∧ m ≤ ts.length ∧ m ≤ 9 := ⟨min 9 ts.length, by split <;> omega, by omega, by omega⟩
  obtain ⟨m3, hm3, hm3l, hm39⟩ : ∃ m : Nat, (if (5 : Int) < (ss.length : Int) then (5 : Int) else (ss.length : Int)) = m ∧ m ≤ ss.length ∧ m ≤ 5 := ⟨min 5 ss.length, by split <;> omega, by omega, by omega⟩
  rw [hm0, hm1, hm2, hm3]
  simp only [Int.toNat_natCast]
  have S0 := (s0.below (w' := wd) hBd).cut hm0l
  have S1 := (s1.below (w' := wd) hBd).cut hm1l
  have S2 := (s2.below (w' := wd) hBd).cut hm2l
  have S3 := (s3.below (w' := wd) hBd).cut hm3l
  simp only [u64v, i64v, boolv, strv, ← List.map_take] at S0 S1 S2 S3
  rw [← u64v] at S0
  rw [← i64v] at S1
  rw [← boolv] at S2
  rw [← strv] at S3
  obtain ⟨l0, hl0⟩ : ∃ l, l = ls.take m0 := ⟨_, rfl⟩
  obtain ⟨l1, hl1⟩ : ∃ l, l = ns.take m1 := ⟨_, rfl⟩
  obtain ⟨l2, hl2⟩ : ∃ l, l = ts.take m2 := ⟨_, rfl⟩
  obtain ⟨l3, hl3⟩ : ∃ l, l = ss.take m3 := ⟨_, rfl⟩
  rw [← hl0] at S0
  rw [← hl1] at S1
  rw [← hl2] at S2
  rw [← hl3] at S3
  have B0 : ∀ x ∈ l0, x < 2 ^ 64 := fun x hx => b0 x (List.mem_of_mem_take (hl0 ▸ hx))
  have B1 : ∀ x ∈ l1, -9223372036854775808 ≤ x ∧ x ≤ 9223372036854775807 := fun x hx => b1 x (List.mem_of_mem_take (hl1 ▸ hx))
  have B3 : ∀ x ∈ l3, x.size ≤ maxLen := fun x hx => b3 x (List.mem_of_mem_take (hl3 ▸ hx))
  obtain rfl : l0.length = m0 := by rw [hl0]; simp; omega
  obtain rfl : l1.length = m1 := by rw [hl1]; simp; omega
  obtain rfl : l2.length = m2 := by rw [hl2]; simp; omega
  obtain rfl : l3.length = m3 := by rw [hl3]; simp; omega
  clear hl0 hl1 hl2 hl3 s0 s1 s2 s3 b0 b1 b3 hm0 hm1 hm2 hm3 hm0l hm1l hm2l hm3l
  obtain ⟨W2, hW2⟩ : ∃ w, w = (wd.alloc (.cells #[.slice none 0 0] 25)).alloc (.cells #[.slice none 0 0] 25) := ⟨_, rfl⟩
  have hz2 : W2.heap.size = wd.heap.size + 2 := by rw [hW2]; simp
  have hB2 : Below wd.heap.size wd W2 := by rw [hW2]; exact ((Below.refl _ _).alloc (Nat.le_refl _) _).alloc (by simp) _
  have hEb : Blk W2 (wd.heap.size + 1) #[.slice none 0 0] 25 := by rw [hW2]; exact Blk.new' (by simp)
  have hEa : EncV W2 (wd.heap.size + 2) wd.heap.size (.slice none 0 0) [] := ⟨by rw [hW2]; exact (Blk.new _ _ _).alloc _, World.ownsRow_nil _ _ _ _, by omega⟩
  have HU := Lib.hid (enc_U l0 B0 (wd.heap.size + 2) wd.heap.size _ [] (by simp; omega) _ W2 hEa (S0.below hB2) (apart_old S0 (by omega) (by omega)))
  have HW2 := Lib.hid hW2
  clear hW2
  go_wp2_with fail
  rw [← HW2.out]
  refine HU.out.mono ?_; rintro e w1 ⟨rfl, v1, hE1, hO1⟩
  have hB1 := only_below' hB2 hO1 (by omega) (Nat.le_refl _) (Nat.le_refl _)
  have hEb1 := hEb.keep hO1 (fun e => by rcases e with e | ⟨e, _⟩ <;> omega)
  have hL1' : (l0.flatMap Wire.num).length ≤ 90 := by have := Wire.flat_le l0 B0; omega
  have hL1 : (Wire.unums l0).length ≤ 90 := hL1'
  have hz1 := hO1.size
  have HU2 := Lib.hid (enc_I l1 B1 (wd.heap.size + 2) wd.heap.size _ _ (by simp only [List.nil_append]; omega) _ w1 hE1 (S1.below hB1) (apart_old S1 (by omega) (by omega)))
  clear hE1 hB2
  go_wp2_with fail
  refine HU2.out.mono ?_; rintro e w2 ⟨rfl, v2, hE2, hO2⟩
  have hB2 := only_below' hB1 hO2 (by omega) (Nat.le_refl _) (Nat.le_refl _)
  have hEb2 := hEb1.keep hO2 (fun e => by rcases e with e | ⟨e, _⟩ <;> omega)
  have hL2 : (Wire.nums l1).length ≤ 90 := by have := Wire.nums_le l1 (fun x hx => (B1 x hx).2); omega
  have hz2 := hO2.size
  have HU3 := Lib.hid (enc_B l2 (wd.heap.size + 2) wd.heap.size _ _ (by simp only [List.nil_append, List.length_append]; omega) _ w2 hE2 (S2.below hB2) (apart_old S2 (by omega) (by omega)))
  clear hE2 hB1 hEb1
  go_wp2_with fail
  refine HU3.out.mono ?_; rintro e w3 ⟨rfl, v3, hE3, hO3⟩
  have hB3 := only_below' hB2 hO3 (by omega) (Nat.le_refl _) (Nat.le_refl _)
  have hEb3 := hEb2.keep hO3 (fun e => by rcases e with e | ⟨e, _⟩ <;> omega)
  have hz3 := hO3.size
  have hL3 : (Wire.truths l2).length ≤ 9 := by simp only [Wire.truths, List.length_map]; omega
  clear hB2 hEb2 HU HU2 HU3
  obtain ⟨LA, hLA⟩ : ∃ LA, LA = [] ++ l0.flatMap Wire.num ++ Wire.nums l1 ++ Wire.truths l2 := ⟨_, rfl⟩
  rw [← hLA] at hE3
  have hLAl : LA.length ≤ 200 := by rw [hLA]; simp only [List.nil_append, List.length_append]; omega
  have HLA := Lib.hid hLA
  clear hLA
  go_wp2_with fail
  go_loopw [51, 11] (fun i tx wr => ∃ (j : Nat) (T : List ByteArray), j ≤ l3.length ∧ i = .int .i64 (j) ∧ T = (l3.take j).map (fun s => bs (s.data.toList.take 30)) ∧ wr.ownsRow w3.heap.size 9 1 tx j (strv T) ∧ Below w3.heap.size w3 wr) (fun i _ _ => l3.length - (intOf i).toNat)
  case atStart => exact ⟨0, [], by omega, rfl, rfl, own_lit w3 [] 9 _ 0 rfl (Nat.le_refl _) (by omega), (Below.refl _ _).alloc (Nat.le_refl _) _⟩
  obtain ⟨j, T, hj, rfl, hT, hown, hBr⟩ := hrel
  have hBr2 := hB3.trans (hBr.mono (by omega))
  rcases Nat.lt_or_ge j l3.length with hlt | hge
  · obtain ⟨ao', cap', ev, _, _, _, hs⟩ := S3
    cases ev
    obtain ⟨bb, off, rfl, hb1, hcell⟩ := hs (by omega)
    have hc0 := hcell j (.string (l3[j])) (by simp [strv, hlt])
    have hc : wr.cell? ⟨bb, off + j, none⟩ = some (.string (l3[j])) := (hBr2.cell (p := ⟨bb, off + j, none⟩) hb1).trans hc0
    have HC := Lib.hid (law_Cut l3[j] (by have := B3 l3[j] (List.getElem_mem _); unfold maxLen at this; omega) 30 (by omega) wr)
    have HT : Hid ((l3.take (j + 1)).map (fun s => bs (s.data.toList.take 30)) = T ++ [bs (l3[j].data.toList.take 30)]) := by
      refine Lib.hid ?_
      rw [take_snoc' l3 j hlt, hT]
      simp only [List.map_append, List.map_cons, List.map_nil]
    generalize bs (l3[j].data.toList.take 30) = t at *
    generalize l3[j] = x at *
    clear hcell hc0 hs hT
    have hn1 : (j + 1) * 16 ≤ 140737488355328 := by omega
    have hn2 : j + 1 ≤ maxLen := by unfold maxLen; omega
    go_wp2_with fail
    refine HC.out.mono ?_; rintro e w4 ⟨rfl, rfl⟩
    go_wp2_with (at_builtin; refine wpl_app rfl rfl ei_str w3.heap.size rfl (hown.alloc _) [.string t] rfl rfl (Blk.new wr _ _) rfl hn1 hn2 (by have := hBr.size; simp; omega) ?_; intro v' w4 ho1 hk1; obtain ⟨ao', cap', rfl, _, _, _, _⟩ := Sl.of_own ho1)
    refine ⟨⟨j + 1, T ++ [t], by omega, by go_num, HT.out.symm, by simpa [strv] using ho1, ?_⟩, by simp [intOf]; omega⟩
    exact (hBr.alloc hBr.size _).trans (hk1.below (by have := hBr.size; simp; omega) (fun k hk e => by have := own_ge hown k e; omega))
  obtain rfl : j = l3.length := by omega
  rw [List.take_length] at hT
  have hTl : T.length = l3.length := by rw [hT]; simp
  have hTz : ∀ x ∈ T, x.size ≤ 30 := by
    intro x hx
    rw [hT] at hx
    obtain ⟨y, _, rfl⟩ := List.mem_map.1 hx
    rw [bs_size]
    simp
    omega
  clear hT hge
  obtain ⟨ao', cap', rfl, _, _, _, _⟩ := Sl.of_own hown
  have hE3' := hE3.below (hBr.mono (Nat.le_refl _))
  have hEb4 := hEb3.keep (only_of_below hBr (fun _ => False)) (fun e => e)
  have hB4 := hBr2
  clear hBr2 hBr hE3 hEb3 hB3
  rw [← hTl] at hown
  have hL4 := Wire.texts_le T (fun x hx => by have := hTz x hx; omega)
  have hapA := own_apart hE3' hown (by decide) (by decide)
  have hz4 := hE3'.le
  have HU := Lib.hid (enc_S T (fun x hx => by have := hTz x hx; omega) (wd.heap.size + 2) wd.heap.size _ LA (by omega) _ wr hE3' (Sl.of_own hown) (apart_own hE3' hown (by decide) (by decide)))
  rw [hTl] at HU
  go_wp2_with fail
  refine HU.out.mono ?_; rintro e w5 ⟨rfl, v5, hE5, hO5⟩
  have hown5 := own_keep hown hO5 hapA
  have hEb5 := hEb4.keep hO5 (fun e => by rcases e with e | ⟨e, _⟩ <;> omega)
  have hB5 := only_below' hB4 hO5 (by omega) (Nat.le_refl _) (Nat.le_refl _)
  have hne5 := own_ne hown5 hEb5 (by decide)
  have hb5lt := hEb5.lt
  have hF : EncV w5 w5.heap.size (wd.heap.size + 1) (.slice none 0 0) [] := ⟨hEb5, World.ownsRow_nil _ _ _ _, Nat.le_refl _⟩
  have hOF : Only (encS w5 w5.heap.size (wd.heap.size + 1)) w5 w5 := Only.refl _ _
  have R0 := Lib.hid (S0.below hB5)
  have R1 := Lib.hid (S1.below hB5)
  have R2 := Lib.hid (S2.below hB5)
  have R3 := Lib.hid (Sl.of_own hown5)
  have N0 : Hid (∀ a, ao0 = some a → 0 < l0.length → a.block ≠ wd.heap.size + 1) := Lib.hid (fun a e h => by obtain ⟨_, _, ev, _, _, _, hs⟩ := S0; cases ev; obtain ⟨bb, off, e2, hb, _⟩ := hs h; rw [e] at e2; cases e2; simp only; omega)
  have N1 : Hid (∀ a, ao1 = some a → 0 < l1.length → a.block ≠ wd.heap.size + 1) := Lib.hid (fun a e h => by obtain ⟨_, _, ev, _, _, _, hs⟩ := S1; cases ev; obtain ⟨bb, off, e2, hb, _⟩ := hs h; rw [e] at e2; cases e2; simp only; omega)
  have N2 : Hid (∀ a, ao2 = some a → 0 < l2.length → a.block ≠ wd.heap.size + 1) := Lib.hid (fun a e h => by obtain ⟨_, _, ev, _, _, _, hs⟩ := S2; cases ev; obtain ⟨bb, off, e2, hb, _⟩ := hs h; rw [e] at e2; cases e2; simp only; omega)
  have N3 : Hid (∀ a, ao' = some a → 0 < T.length → a.block ≠ wd.heap.size + 1) := Lib.hid (fun a e h => by subst e; intro e2; exact hne5 (by rw [← e2]; rfl))
  clear S0 S1 S2 S3 hEb4 hE3' hown hapA HU hEa hEb
  go_wp2_with fail
  go_loopw [65] (fun i wr => ∃ (j : Nat) (v : Value), j ≤ l0.length ∧ i = .int .i64 (j) ∧ EncV wr w5.heap.size (wd.heap.size + 1) v ([] ++ Wire.unums (l0.take j)) ∧ Only (encS w5 w5.heap.size (wd.heap.size + 1)) w5 wr) (fun i _ => l0.length - (intOf i).toNat)
  case atStart => exact ⟨0, _, by omega, rfl, by simpa only [List.take_zero, Wire.unums, List.flatMap_nil, List.map_nil, List.append_nil] using hF, hOF⟩
  obtain ⟨j, v, hj, rfl, hE1, hO1⟩ := hrel
  rcases Nat.lt_or_ge j l0.length with hlt | hge
  · obtain ⟨ao', cap', ev, _, _, _, hs⟩ := R0.out
    cases ev
    obtain ⟨bb, off, rfl, hb1, hcell⟩ := hs (by omega)
    have hne := N0.out _ rfl (by omega)
    simp only at hne
    have hc0 := hcell j (Value.int .u64 (l0[j])) (by simp [u64v, hlt])
    have hc : wr.cell? ⟨bb, off + j, none⟩ = some (Value.int .u64 (l0[j])) := (hO1.cell (p := ⟨bb, off + j, none⟩) hb1 (fun e => by rcases e with e | ⟨e, _⟩ <;> simp only at e <;> omega)).trans hc0
    have hx := B0 l0[j] (List.getElem_mem _)
    have Hst : Hid ([] ++ Wire.unums (l0.take (j + 1)) = ([] ++ Wire.unums (l0.take j)) ++ Wire.unums [l0[j]]) := by
      refine Lib.hid ?_
      rw [take_snoc' l0 j hlt]
      simp only [Wire.unums, List.flatMap_append, List.flatMap_cons, List.flatMap_nil, List.map_append, List.map_cons, List.map_nil, List.append_nil, List.append_assoc, List.nil_append, List.cons_append]
    have hlen : ([] ++ Wire.unums (l0.take j)).length + 1000010 ≤ 100000000 := by
      have h1 := Wire.flat_le (l0.take j) (fun y hy => B0 y (List.mem_of_mem_take hy))
      have h2 : (l0.take j).length = j := List.length_take_of_le (by omega)
      simp only [Wire.unums, List.length_append, List.length_nil, List.length_map] at h1 hL1 hL2 hL3 ⊢
      omega
    generalize l0[j] = x at *
    have HU := Lib.hid (enc_U1 x hx _ _ v _ (by omega) _ hE1)
    clear hcell hc0 hs hne hF hOF
    go_wp2_with fail
    refine HU.out.mono ?_; rintro e w1 ⟨rfl, v2, hE2, hO2⟩
    go_wp2_with fail
    refine ⟨⟨j + 1, v2, by omega, by go_num, ?_, encS_trans hO1 hO2⟩, by simp [intOf]; omega⟩
    rw [Hst.out]
    simpa only [Wire.unums, List.flatMap_cons, List.flatMap_nil, List.map_cons, List.map_nil, List.append_nil] using hE2
  obtain rfl : j = l0.length := by omega
  rw [List.take_length] at hE1
  clear hF hOF hge
  have hF := hE1
  have hOF := hO1
  clear hE1 hO1
  go_wp2_with fail
  go_loopw [75] (fun i wr => ∃ (j : Nat) (v : Value), j ≤ l1.length ∧ i = .int .i64 (j) ∧ EncV wr w5.heap.size (wd.heap.size + 1) v (([] ++ Wire.unums l0) ++ Wire.nums (l1.take j)) ∧ Only (encS w5 w5.heap.size (wd.heap.size + 1)) w5 wr) (fun i _ => l1.length - (intOf i).toNat)
  case atStart => exact ⟨0, _, by omega, rfl, by simpa only [List.take_zero, Wire.nums, List.flatMap_nil, List.map_nil, List.append_nil] using hF, hOF⟩
  obtain ⟨j, v, hj, rfl, hE1, hO1⟩ := hrel
  rcases Nat.lt_or_ge j l1.length with hlt | hge
  · obtain ⟨ao', cap', ev, _, _, _, hs⟩ := R1.out
    cases ev
    obtain ⟨bb, off, rfl, hb1, hcell⟩ := hs (by omega)
    have hne := N1.out _ rfl (by omega)
    simp only at hne
    have hc0 := hcell j (Value.int .i64 (l1[j])) (by simp [i64v, hlt])
    have hc : wr.cell? ⟨bb, off + j, none⟩ = some (Value.int .i64 (l1[j])) := (hO1.cell (p := ⟨bb, off + j, none⟩) hb1 (fun e => by rcases e with e | ⟨e, _⟩ <;> simp only at e <;> omega)).trans hc0
    have hx := B1 l1[j] (List.getElem_mem _)
    have Hst : Hid (([] ++ Wire.unums l0) ++ Wire.nums (l1.take (j + 1)) = (([] ++ Wire.unums l0) ++ Wire.nums (l1.take j)) ++ Wire.nums [l1[j]]) := by
      refine Lib.hid ?_
      rw [take_snoc' l1 j hlt]
      simp only [Wire.nums, List.flatMap_append, List.flatMap_cons, List.flatMap_nil, List.map_append, List.map_cons, List.map_nil, List.append_nil, List.append_assoc, List.nil_append, List.cons_append]
    have hlen : (([] ++ Wire.unums l0) ++ Wire.nums (l1.take j)).length + 1000010 ≤ 100000000 := by
      have h1 := Wire.nums_le (l1.take j) (fun y hy => (B1 y (List.mem_of_mem_take hy)).2)
      have h2 : (l1.take j).length = j := List.length_take_of_le (by omega)
      simp only [Wire.nums, List.length_append, List.length_nil, List.length_map] at h1 hL1 hL2 hL3 ⊢
      omega
    generalize l1[j] = x at *
    have HU := Lib.hid (enc_I1 x hx _ _ v _ (by omega) _ hE1)
    clear hcell hc0 hs hne hF hOF
    go_wp2_with fail
    refine HU.out.mono ?_; rintro e w1 ⟨rfl, v2, hE2, hO2⟩
    go_wp2_with fail
    refine ⟨⟨j + 1, v2, by omega, by go_num, ?_, encS_trans hO1 hO2⟩, by simp [intOf]; omega⟩
    rw [Hst.out]
    simpa only [Wire.nums, List.flatMap_cons, List.flatMap_nil, List.map_cons, List.map_nil, List.append_nil] using hE2
  obtain rfl : j = l1.length := by omega
  rw [List.take_length] at hE1
  clear hF hOF hge
  have hF := hE1
  have hOF := hO1
  clear hE1 hO1
  go_wp2_with fail
  go_loopw [85] (fun i wr => ∃ (j : Nat) (v : Value), j ≤ l2.length ∧ i = .int .i64 (j) ∧ EncV wr w5.heap.size (wd.heap.size + 1) v (([] ++ Wire.unums l0 ++ Wire.nums l1) ++ Wire.truths (l2.take j)) ∧ Only (encS w5 w5.heap.size (wd.heap.size + 1)) w5 wr) (fun i _ => l2.length - (intOf i).toNat)
  case atStart => exact ⟨0, _, by omega, rfl, by simpa only [List.take_zero, Wire.truths, List.flatMap_nil, List.map_nil, List.append_nil] using hF, hOF⟩
  obtain ⟨j, v, hj, rfl, hE1, hO1⟩ := hrel
  rcases Nat.lt_or_ge j l2.length with hlt | hge
  · obtain ⟨ao', cap', ev, _, _, _, hs⟩ := R2.out
    cases ev
    obtain ⟨bb, off, rfl, hb1, hcell⟩ := hs (by omega)
    have hne := N2.out _ rfl (by omega)
    simp only at hne
    have hc0 := hcell j (Value.bool (l2[j])) (by simp [boolv, hlt])
    have hc : wr.cell? ⟨bb, off + j, none⟩ = some (Value.bool (l2[j])) := (hO1.cell (p := ⟨bb, off + j, none⟩) hb1 (fun e => by rcases e with e | ⟨e, _⟩ <;> simp only at e <;> omega)).trans hc0
    have hx := True.intro
    have Hst : Hid (([] ++ Wire.unums l0 ++ Wire.nums l1) ++ Wire.truths (l2.take (j + 1)) = (([] ++ Wire.unums l0 ++ Wire.nums l1) ++ Wire.truths (l2.take j)) ++ Wire.truths [l2[j]]) := by
      refine Lib.hid ?_
      rw [take_snoc' l2 j hlt]
      simp only [Wire.truths, List.flatMap_append, List.flatMap_cons, List.flatMap_nil, List.map_append, List.map_cons, List.map_nil, List.append_nil, List.append_assoc, List.nil_append, List.cons_append]
    have hlen : (([] ++ Wire.unums l0 ++ Wire.nums l1) ++ Wire.truths (l2.take j)).length + 1000010 ≤ 100000000 := by
      have h1 := Nat.le_refl (l2.take j).length
      have h2 : (l2.take j).length = j := List.length_take_of_le (by omega)
      simp only [Wire.truths, List.length_append, List.length_nil, List.length_map] at h1 hL1 hL2 hL3 ⊢
      omega
    generalize l2[j] = x at *
    have HU := Lib.hid (enc_B1 x _ _ v _ (by omega) _ hE1)
    clear hcell hc0 hs hne hF hOF
    go_wp2_with fail
    refine HU.out.mono ?_; rintro e w1 ⟨rfl, v2, hE2, hO2⟩
    go_wp2_with fail
    refine ⟨⟨j + 1, v2, by omega, by go_num, ?_, encS_trans hO1 hO2⟩, by simp [intOf]; omega⟩
    rw [Hst.out]
    simpa only [Wire.truths, List.flatMap_cons, List.flatMap_nil, List.map_cons, List.map_nil, List.append_nil] using hE2
  obtain rfl : j = l2.length := by omega
  rw [List.take_length] at hE1
  clear hF hOF hge
  have hF := hE1
  have hOF := hO1
  clear hE1 hO1
  go_wp2_with fail
  go_loopw [95] (fun i wr => ∃ (j : Nat) (v : Value), j ≤ T.length ∧ i = .int .i64 (j) ∧ EncV wr w5.heap.size (wd.heap.size + 1) v (([] ++ Wire.unums l0 ++ Wire.nums l1 ++ Wire.truths l2) ++ Wire.texts (T.take j)) ∧ Only (encS w5 w5.heap.size (wd.heap.size + 1)) w5 wr) (fun i _ => T.length - (intOf i).toNat)
  case atStart => exact ⟨0, _, by omega, rfl, by simpa only [List.take_zero, Wire.texts, List.flatMap_nil, List.map_nil, List.append_nil] using hF, hOF⟩
  obtain ⟨j, v, hj, rfl, hE1, hO1⟩ := hrel
  rcases Nat.lt_or_ge j T.length with hlt | hge
  · obtain ⟨ao', cap', ev, _, _, _, hs⟩ := R3.out
    cases ev
    obtain ⟨bb, off, rfl, hb1, hcell⟩ := hs (by omega)
    have hne := N3.out _ rfl (by omega)
    simp only at hne
    have hc0 := hcell j (Value.string (T[j])) (by simp [strv, hlt])
    have hc : wr.cell? ⟨bb, off + j, none⟩ = some (Value.string (T[j])) := (hO1.cell (p := ⟨bb, off + j, none⟩) hb1 (fun e => by rcases e with e | ⟨e, _⟩ <;> simp only at e <;> omega)).trans hc0
    have hx := hTz T[j] (List.getElem_mem _)
    have Hst : Hid (([] ++ Wire.unums l0 ++ Wire.nums l1 ++ Wire.truths l2) ++ Wire.texts (T.take (j + 1)) = (([] ++ Wire.unums l0 ++ Wire.nums l1 ++ Wire.truths l2) ++ Wire.texts (T.take j)) ++ Wire.texts [T[j]]) := by
      refine Lib.hid ?_
      rw [take_snoc' T j hlt]
      simp only [Wire.texts, List.flatMap_append, List.flatMap_cons, List.flatMap_nil, List.map_append, List.map_cons, List.map_nil, List.append_nil, List.append_assoc, List.nil_append, List.cons_append]
    have hlen : (([] ++ Wire.unums l0 ++ Wire.nums l1 ++ Wire.truths l2) ++ Wire.texts (T.take j)).length + 1000010 ≤ 100000000 := by
      have h1 := Wire.texts_le (T.take j) (fun y hy => by have := hTz y (List.mem_of_mem_take hy); omega)
      have h2 : (T.take j).length = j := List.length_take_of_le (by omega)
      simp only [Wire.texts, List.length_append, List.length_nil, List.length_map] at h1 hL1 hL2 hL3 ⊢
      omega
    generalize T[j] = x at *
    have HU := Lib.hid (enc_S1 x (by omega) _ _ v _ (by omega) _ hE1)
    clear hcell hc0 hs hne hF hOF
    go_wp2_with fail
    refine HU.out.mono ?_; rintro e w1 ⟨rfl, v2, hE2, hO2⟩
    go_wp2_with fail
    refine ⟨⟨j + 1, v2, by omega, by go_num, ?_, encS_trans hO1 hO2⟩, by simp [intOf]; omega⟩
    rw [Hst.out]
    simpa only [Wire.texts, List.flatMap_cons, List.flatMap_nil, List.map_cons, List.map_nil, List.append_nil] using hE2
  obtain rfl : j = T.length := by omega
  rw [List.take_length] at hE1
  clear hF hOF hge
  have hF := hE1
  have hOF := hO1
  clear hE1 hO1
  have hEA := hE5.keep hOF (fun e => by rcases e with e | ⟨e, _⟩ <;> omega) (fun g hg e => by
    have h1 := (hE5.own.lt g hg).2
    rcases e with e | ⟨e, _⟩
    · exact own_ne hE5.own hEb5 (by decide) (by rw [hg, e])
    · omega)
  have hBf := only_below' hB5 hOF (by omega) (by omega) (Nat.le_refl _)
  rw [HLA.out, show l0.flatMap Wire.num = Wire.unums l0 from rfl] at hEA
  generalize ([] : List UInt8) ++ Wire.unums l0 ++ Wire.nums l1 ++ Wire.truths l2 ++ Wire.texts T = LB at *
  go_wp2_with fail
  refine (awake_any _).mono ?_; rintro e w6 ⟨rfl, hB6⟩
  have hF6 := hF.below hB6
  have hEA6 := hEA.below hB6
  go_wp2_with fail
  refine (enc_Bytes _ _ _ _ _ hEA6).mono ?_; rintro e w7 ⟨rfl, rfl⟩
  go_wp2_with fail
  refine (enc_Bytes _ _ _ _ _ hF6).mono ?_; rintro e w7 ⟨rfl, rfl⟩
  go_wp2_with fail
  go_ret
  exact ⟨rfl, hBd.trans ((hBf.trans (hB6.mono hBf.size)).mono hBd.size)⟩
namespace WireMany
open Go.ChangeShapes Go.WideShapes Go.ChangeAt Go.RowKit
set_option linter.unusedVariables false
theorem own : ownKnob Try.prog.godebug = none := by kernel_rfl
theorem laidOut : laidOutB Try.prog = true := by kernel_rfl
set_option maxRecDepth 100000 in
theorem lifted (os : Os) (started : os.Started) (H : Type) (enc : TypeId × Value → H) :
    ReturnsInHanded {} Try.checked os 4 .any (Rows.wireManySpec.pre6 enc Try.prog Try.f4 Rows.wireManyRow.domain false) (Rows.wireManySpec.post enc Try.prog Try.f4 false true false false) := by
  refine returnsInHanded_of_change (C := Try.checked) own started (by kernel_rfl) Try.func4
    (ChangeSpec.witness6 (enc := enc) (C := Try.checked) false ⟨#[], #[.slice none 0 0, .slice none 0 0, .slice none 0 0, .slice none 0 0], []⟩ 8 (by kernel_rfl) (by kernel_rfl) (by kernel_rfl) (by kernel_rfl)) ?_
  intro W base args ds gs before hval0 hW hcnd _
  have hval : ∀ (j : Nat) t v, Try.f4.params[j]? = some t → args[j]? = some v → Value.okWide Try.prog W .any base t v := hval0
  have hW' := hW
  obtain ⟨p, q, hA0, hV, rfl, hfz, hnd⟩ := hW
  have hA : DataW.TrodAll enc Try.prog W 0 (fun _ => true) true Try.f4.params.toList args.toList ds p := hA0
  rw [Try.params4] at hA hval
  obtain ⟨v0, vs0, d0, ds0, p0, q0, hargs, rfl, rfl, h0, r0⟩ := trodAll_cons hA
  obtain ⟨v1, vs1, d1, ds1, p1, q1, rfl, rfl, rfl, h1, r1⟩ := trodAll_cons r0
  obtain ⟨v2, vs2, d2, ds2, p2, q2, rfl, rfl, rfl, h2, r2⟩ := trodAll_cons r1
  obtain ⟨v3, vs3, d3, ds3, p3, q3, rfl, rfl, rfl, h3, r3⟩ := trodAll_cons r2
  obtain ⟨rfl, rfl, rfl⟩ := trodAll_nil r3
  obtain rfl : args = #[v0, v1, v2, v3] := by cases args; simp_all
  obtain ⟨rfl, rfl⟩ := trodVars_none hV
  have lt0 : ∀ x ∈ p0, x.block < W.heap.size := by obtain ⟨m, hm⟩ := h0; exact DataW.trod_lt m _ _ _ hm
  obtain ⟨x0, w0⟩ := arg_open (Kd.slice (.int .u64)) h0 (hval 0 _ v0 rfl rfl) (by kernel_rfl)
  have lt1 : ∀ x ∈ p1, x.block < W.heap.size := by obtain ⟨m, hm⟩ := h1; exact DataW.trod_lt m _ _ _ hm
  obtain ⟨x1, w1⟩ := arg_open (Kd.slice (.int .i64)) h1 (hval 1 _ v1 rfl rfl) (by kernel_rfl)
  have lt2 : ∀ x ∈ p2, x.block < W.heap.size := by obtain ⟨m, hm⟩ := h2; exact DataW.trod_lt m _ _ _ hm
  obtain ⟨x2, w2⟩ := arg_open (Kd.slice .bool) h2 (hval 2 _ v2 rfl rfl) (by kernel_rfl)
  have lt3 : ∀ x ∈ p3, x.block < W.heap.size := by obtain ⟨m, hm⟩ := h3; exact DataW.trod_lt m _ _ _ hm
  obtain ⟨x3, w3⟩ := arg_open (Kd.slice .str) h3 (hval 3 _ v3 rfl rfl) (by kernel_rfl)
  clear hA0 hval0
  refine (WireMany_walk W v0 v1 v2 v3 x0 w0 x1 w1 x2 w2 x3 w3).mono fun e W' ⟨he, bel⟩ => ?_
  subst he
  exact ⟨_, rfl, _, _, _, [], _, [], hW', trodAll_mk1 (shut_bool (by kernel_rfl) _), (trodAll_cons_mk (Below.trod laidOut (by kernel_rfl) (of_decide_eq_true (by kernel_rfl)) h0 bel lt0) (trodAll_cons_mk (Below.trod laidOut (by kernel_rfl) (of_decide_eq_true (by kernel_rfl)) h1 bel lt1) (trodAll_cons_mk (Below.trod laidOut (by kernel_rfl) (of_decide_eq_true (by kernel_rfl)) h2 bel lt2) (trodAll_cons_mk (Below.trod laidOut (by kernel_rfl) (of_decide_eq_true (by kernel_rfl)) h3 bel lt3) trodAll_mk0)))), rfl, bel.frame _, fun h => by cases h⟩

theorem over : Rows.wireManyRow.holds Try.pinned (OpenSpec.ofChange Rows.wireManySpec) :=
  OpenClaim.holds_of_wide 4 Try.f4 rfl rfl rfl rfl rfl rfl rfl ⟨rfl, rfl, rfl, rfl, rfl⟩ rfl rfl rfl rfl rfl (by kernel_rfl) Try.func4 (by kernel_rfl)
    (of_decide_eq_true (by kernel_rfl)) (by unfold Func.isWrapper; rw [if_neg (of_decide_eq_false (by kernel_rfl))]; exact ⟨rfl, rfl⟩)
    (fun os started H enc _ => lifted os started H enc)
/-- THE STATEMENT. -/
theorem proved : Rows.WireManySaid := over
#print axioms proved
end WireMany
end Go.Proofs.Ythegfbfggbpahaa
