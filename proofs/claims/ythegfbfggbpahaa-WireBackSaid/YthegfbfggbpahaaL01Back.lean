/- What is written is taken again: the statement WireBack holds of all arguments. No condition. -/
import Derived.Test.YthegfbfggbpahaaWirePut2
set_option linter.unusedSimpArgs false
set_option linter.unusedVariables false
namespace Go.Proofs.Ythegfbfggbpahaa
open Go.RowKit
set_option maxHeartbeats 4000000
set_option maxRecDepth 100000

namespace Wire
theorem decI_of (most : Int) (n : Nat) (hn : n < 2 ^ 64) (rest : List UInt8) : decI most (num n ++ rest) 0 = if most.toNat < n then (0, rest, 11) else (n, rest, 0) := by
  unfold decI
  rw [decU_num n hn rest]
  rfl
theorem decIs_err (each : Int) (m : Nat) (l : List UInt8) (k : Int) (hk : k ≠ 0) : decIs each m l k = ([], l, k) := by
  cases m with
  | zero => rfl
  | succ m => rw [decIs, if_neg hk]
theorem decIs_nums (each : Int) (xs : List Int) (hx : ∀ x ∈ xs, x ≤ 9223372036854775807) (rest : List UInt8) :
    decIs each xs.length (nums xs ++ rest) 0 = (xs.map Int.toNat, rest, 0) ∨ (decIs each xs.length (nums xs ++ rest) 0).2.2 = 11 := by
  induction xs with
  | nil => exact Or.inl rfl
  | cons x xs ih =>
    have h1 := hx x (by simp)
    have e : nums (x :: xs) ++ rest = num x.toNat ++ (nums xs ++ rest) := by simp [nums]
    rw [e, List.length_cons, decIs, if_pos rfl, decI_of each x.toNat (by omega)]
    by_cases c : each.toNat < x.toNat
    · rw [if_pos c]
      refine Or.inr ?_
      simp only
      rw [decIs_err _ _ _ _ (by decide)]
    · rw [if_neg c]
      simp only
      rcases ih (fun y hy => hx y (by simp [hy])) with h | h
      · rw [h]
        exact Or.inl rfl
      · exact Or.inr h
theorem decL_nums (each : Int) (xs : List Int) (hl : xs.length ≤ 20) (hx : ∀ x ∈ xs, x ≤ 9223372036854775807) (rest : List UInt8) :
    decL 20 each (num xs.length ++ nums xs ++ rest) 0 = (xs.map Int.toNat, rest, 0) ∨ ((decL 20 each (num xs.length ++ nums xs ++ rest) 0).1 = [] ∧ (decL 20 each (num xs.length ++ nums xs ++ rest) 0).2.2 = 11) := by
  unfold decL
  rw [List.append_assoc, decI_num 20 xs.length (by omega) (by omega)]
  simp only
  rcases decIs_nums each xs hx rest with h | h
  · rw [h]
    exact Or.inl rfl
  · rw [h]
    exact Or.inr ⟨rfl, h⟩
end Wire
theorem Th.put_le (t : Th) (W : World) (h : t.Ok W) : t.put.length ≤ 300 := by
  obtain ⟨_, hn, _, hu, _, hl, _⟩ := h
  have h1 := Wire.num_le t.u hu
  have h2 := Wire.num_le t.n.toNat (by omega)
  have h3 := Wire.nums_le (t.l.take 20) (fun x hx => (hl x (List.mem_of_mem_take hx)).2)
  have h4 : (t.l.take 20).length ≤ 20 := by simp; omega
  have h5 := Wire.num_le (t.l.take 20).length (by omega)
  have h6 : (bs (t.s.data.toList.take 200)).size ≤ 200 := by rw [bs_size]; simp; omega
  have h7 := Wire.num_le (bs (t.s.data.toList.take 200)).size (by omega)
  unfold Th.put
  split
  · omega
  split
  · omega
  split
  · simp
  split
  · simp only [Wire.text, List.length_append]
    have : (bs (t.s.data.toList.take 200)).data.toList.length = (bs (t.s.data.toList.take 200)).size := by simp
    omega
  split
  · simp only [List.length_append]
    omega
  · simp
theorem puts_le (ts : List Th) (W : World) (h : ∀ t ∈ ts, t.Ok W) : (ts.flatMap Th.put).length ≤ 300 * ts.length := by
  induction ts with
  | nil => simp
  | cons t ts ih =>
    have h1 := ih (fun x hx => h x (by simp [hx]))
    have h2 := t.put_le W (h t (by simp))
    simp only [List.flatMap_cons, List.length_append, List.length_cons]
    omega

theorem WireBack_walk (W : World) (v0 : Value) (x0 : (Kd.slice KThing).den) (w0 : (Kd.slice KThing).Arg W v0 x0) : Calls Try.prog 6 #[v0] W (Done W) := by
  obtain ⟨ao, cap, ts, rfl, p0, q0, hok, hpos⟩ := row_things w0
  unfold maxLen at q0
  clear w0
  obtain ⟨us, hus⟩ : ∃ us, us = ts.take 20 := ⟨_, rfl⟩
  have hul : us.length = min 20 ts.length := by rw [hus]; simp
  have huok : ∀ t ∈ us, t.Ok W := fun t h => hok t (List.mem_of_mem_take (hus ▸ h))
  have hcells : ∀ (j : Nat) (hj : j < us.length), ∃ b off, ao = some ⟨b, off, none⟩ ∧ b < W.heap.size ∧ ∀ (k : Nat) (u : Value), (us[j]).cells[k]? = some u → W.cell? ⟨b, off + j * 7 + k, none⟩ = some u := by
    intro j hj
    obtain ⟨b, off, e, hb, hc⟩ := hpos (by omega)
    refine ⟨b, off, e, hb, fun k u hu => ?_⟩
    rw [Nat.add_assoc]
    refine hc j us[j] ?_ k u hu
    rw [List.getElem?_eq_getElem (by omega)]
    simp [hus]
  have HC := Lib.hid hcells
  have HOK := Lib.hid huok
  clear hcells hpos hok
  generalize hTL : ts.length = TL at *
  clear hTL hus ts
  have hpl := puts_le us W huok
  clear huok
  (go_enter Try.func6, Try.ntmps6)
  go_wp2_with fail
  refine (awake_any _).mono ?_; rintro e w1 ⟨rfl, hB1⟩
  have hz1 := hB1.size
  have hE0 : EncV (w1.alloc (.cells #[.slice none 0 0] 25)) (w1.heap.size + 1) w1.heap.size (.slice none 0 0) [] := ⟨Blk.new _ _ _, World.ownsRow_nil _ _ _ _, by simp⟩
  go_wp2_with fail
  go_loopw [4] (fun i wr => ∃ (j : Nat) (v : Value), j ≤ us.length ∧ i = .int .i64 (j) ∧ EncV wr (w1.heap.size + 1) w1.heap.size v ((us.take j).flatMap Th.put) ∧ Below W.heap.size W wr) (fun i _ => us.length - (intOf i).toNat)
  case atStart => exact ⟨0, _, by omega, rfl, hE0, hB1.alloc hB1.size _⟩
  obtain ⟨j, v, hj, rfl, hE, hB⟩ := hrel
  rcases Nat.lt_or_ge j us.length with hlt | hge
  · obtain ⟨bb, off, rfl, hbb, hc⟩ := HC.out j hlt
    have ht := HOK.out _ (List.getElem_mem hlt)
    have hlen : ((us.take j).flatMap Th.put).length + 1100000 ≤ 100000000 := by
      have := puts_le (us.take j) W (fun t h => HOK.out t (List.mem_of_mem_take h))
      have h2 : (us.take j).length = j := List.length_take_of_le (by omega)
      omega
    have HP := Lib.hid (law_put W us[j] ht _ _ v _ hlen wr hE hB (by omega) (by omega))
    have Hst : Hid ((us.take (j + 1)).flatMap Th.put = (us.take j).flatMap Th.put ++ us[j].put) := by
      refine Lib.hid ?_
      rw [take_snoc' us j hlt, List.flatMap_append]
      simp only [List.flatMap_cons, List.flatMap_nil, List.append_nil]
    generalize us[j] = t at *
    have hcc : ∀ (k : Nat) (u : Value), t.cells[k]? = some u → wr.cell? ⟨bb, off + j * 7 + k, none⟩ = some u := fun k u h => (hB.cell (p := ⟨bb, off + j * 7 + k, none⟩) hbb).trans (hc k u h)
    have cc0 : wr.cell? ⟨bb, off + j * 7, none⟩ = some (.int .i64 (t.kd)) := hcc 0 _ rfl
    have cc1 := hcc 1 _ rfl
    have cc2 := hcc 2 _ rfl
    have cc3 := hcc 3 _ rfl
    have cc4 := hcc 4 _ rfl
    have cc5 := hcc 5 _ rfl
    have cc6 := hcc 6 _ rfl
    clear hcc hc hlen ht
    go_wp2_with fail
    refine HP.out.mono ?_; rintro e w2 ⟨⟨s, rfl⟩, v2, hE2, hO2⟩
    go_wp2_with fail
    refine ⟨⟨j + 1, v2, by omega, by go_num, ?_, only_below' hB hO2 (by omega) (by omega) (Nat.le_refl _)⟩, by simp [intOf]; omega⟩
    rw [Hst.out]
    exact hE2
  obtain rfl : j = us.length := by omega
  rw [List.take_length] at hE
  go_wp2_with fail
  all_goals
    refine (enc_Bytes _ _ _ _ wr hE).mono ?_; rintro e w3 ⟨rfl, rfl⟩
    go_wp2_with fail
    refine (dec_From _ _).mono ?_; rintro e w3 ⟨rfl, rfl⟩
    have hD := Blk.new wr #[.string (bs (us.flatMap Th.put)), .int .i64 (0)] 55
    have hBD := hB.alloc hB.size (.cells #[.string (bs (us.flatMap Th.put)), .int .i64 (0)] 55)
    have hzr := hB.size
    generalize wr = wa at *
    go_wp2_with fail
    go_loopw [6] (fun i wq => ∃ (j : Nat), j ≤ us.length ∧ i = .int .i64 (j) ∧ Blk wq wa.heap.size #[.string (bs ((us.drop j).flatMap Th.put)), .int .i64 (0)] 55 ∧ Below W.heap.size W wq) (fun i _ => us.length - (intOf i).toNat)
    case atStart => exact ⟨0, by omega, rfl, by simpa using hD, hBD⟩
    obtain ⟨j, hj, rfl, hD1, hB1⟩ := hrel
    clear hD hBD
    rcases Nat.lt_or_ge j us.length with hlt | hge
    · obtain ⟨bb, off, e, hbb, hc⟩ := HC.out j hlt
      cases e
      have ht := HOK.out _ (List.getElem_mem hlt)
      have hdrop : Hid ((us.drop j).flatMap Th.put = us[j].put ++ (us.drop (j + 1)).flatMap Th.put) := by
        refine Lib.hid ?_
        rw [List.drop_eq_getElem_cons hlt]
        rfl
      have hrl : ((us.drop (j + 1)).flatMap Th.put).length ≤ 6000 := by
        have := puts_le (us.drop (j + 1)) W (fun t h => HOK.out t (List.mem_of_mem_drop h))
        simp only [List.length_drop] at this
        omega
      have hpt := us[j].put_le W ht
      rw [hdrop.out] at hD1
      generalize us[j] = t at *
      have hcc : ∀ (k : Nat) (u : Value), t.cells[k]? = some u → wr.cell? ⟨bb, off + j * 7 + k, none⟩ = some u := fun k u h => (hB1.cell (p := ⟨bb, off + j * 7 + k, none⟩) hbb).trans (hc k u h)
      have cc0 : wr.cell? ⟨bb, off + j * 7, none⟩ = some (.int .i64 (t.kd)) := hcc 0 _ rfl
      have cc1 := hcc 1 _ rfl
      have cc2 := hcc 2 _ rfl
      have cc3 := hcc 3 _ rfl
      have cc4 := hcc 4 _ rfl
      have cc5 := hcc 5 _ rfl
      have cc6 := hcc 6 _ rfl
      clear hcc hc
      obtain ⟨kd, n, m, u, is, s, tao, tcap, tl⟩ := t
      obtain ⟨o1, o2, o3, o4, o5, o6, o7⟩ := ht
      simp only at o1 o2 o3 o4 o5 o6 o7 cc0 cc1 cc2 cc3 cc4 cc5 cc6
      unfold maxLen at o5
      obtain ⟨R, hR⟩ : ∃ R, R = (us.drop (j + 1)).flatMap Th.put := ⟨_, rfl⟩
      rw [← hR] at hD1 hrl
      have HR := Lib.hid hR
      have hlt2 := hD1.lt
      have hne : wr.heap.size ≠ wa.heap.size := by omega
      clear hR hdrop
      by_cases k1 : kd = 1
      · subst k1
        have hbx : Blk (wr.alloc (.cells #[.int .i64 (1), .int .i64 (n), .int .i64 (m), .int .u64 (u : Int), .bool is, .string s, .slice tao tl.length tcap] 49)).drew wr.heap.size #[.int .i64 (1), .int .i64 (n), .int .i64 (m), .int .u64 (u : Int), .bool is, .string s, .slice tao tl.length tcap] 49 := Blk.new _ _ _
        have hDx : Blk (wr.alloc (.cells #[.int .i64 (1), .int .i64 (n), .int .i64 (m), .int .u64 (u : Int), .bool is, .string s, .slice tao tl.length tcap] 49)).drew wa.heap.size _ _ := hD1.alloc _
        have hBx : Below W.heap.size W (wr.alloc (.cells #[.int .i64 (1), .int .i64 (n), .int .i64 (m), .int .u64 (u : Int), .bool is, .string s, .slice tao tl.length tcap] 49)).drew := below_drew (hB1.alloc hB1.size _) 1
        have HBX := Lib.hid hbx
        have HBB := Lib.hid hBx
        clear hbx hBx hD1
        rw [show Th.put ⟨1, n, m, u, is, s, tao, tcap, tl⟩ = Wire.num u by unfold Th.put; rw [if_pos rfl]] at hDx
        have hU := dec_U _ (by have := Wire.num_le u o4; simp only [List.length_append]; omega) 0 _ _ hDx
        rw [Wire.decU_num u o4] at hU
        have HU := Lib.hid hU
        clear hU hDx
        go_wp2_with fail
        have hbx0 := HBX.out.cell 3
        simp only [List.getElem?_toArray, List.getElem?_cons_zero, List.getElem?_cons_succ] at hbx0
        go_region_held3 (fun w' => w'.cell? ⟨wr.heap.size, 3, none⟩ = some (.int .u64 (u : Int))) (first | exact hbx0 | exact hbx2 | assumption) (first | (go_at_call 18; refine HU.out.mono ?_; rintro e w2 ⟨rfl, hb2, hO2⟩; have hbx2 := (HBX.out.keep hO2 (fun e => by omega)).cell 3; simp only [List.getElem?_toArray, List.getElem?_cons_zero, List.getElem?_cons_succ] at hbx2))
        all_goals
          go_wp2_with fail
          refine ⟨⟨j + 1, by omega, by go_num, ?_, below_one HBB.out hO2 hzr⟩, by simp [intOf]; omega⟩
          rw [HR.out] at hb2
          exact hb2
      by_cases k2 : kd = 2
      · subst k2
        have hbx : Blk (wr.alloc (.cells #[.int .i64 (2), .int .i64 (n), .int .i64 (m), .int .u64 (u : Int), .bool is, .string s, .slice tao tl.length tcap] 49)).drew wr.heap.size #[.int .i64 (2), .int .i64 (n), .int .i64 (m), .int .u64 (u : Int), .bool is, .string s, .slice tao tl.length tcap] 49 := Blk.new _ _ _
        have hDx : Blk (wr.alloc (.cells #[.int .i64 (2), .int .i64 (n), .int .i64 (m), .int .u64 (u : Int), .bool is, .string s, .slice tao tl.length tcap] 49)).drew wa.heap.size _ _ := hD1.alloc _
        have hBx : Below W.heap.size W (wr.alloc (.cells #[.int .i64 (2), .int .i64 (n), .int .i64 (m), .int .u64 (u : Int), .bool is, .string s, .slice tao tl.length tcap] 49)).drew := below_drew (hB1.alloc hB1.size _) 1
        have HBX := Lib.hid hbx
        have HBB := Lib.hid hBx
        clear hbx hBx hD1
        rw [show Th.put ⟨2, n, m, u, is, s, tao, tcap, tl⟩ = Wire.num n.toNat by unfold Th.put; rw [if_neg k1, if_pos rfl]] at hDx
        by_cases h0 : 0 ≤ n
        · obtain ⟨n', rfl⟩ := Int.eq_ofNat_of_zero_le h0
          rw [show ((n' : Int)).toNat = n' from rfl] at hDx
          have hU := dec_I n' o2 _ (by have := Wire.num_le n' (by omega); simp only [List.length_append]; omega) 0 _ _ hDx
          rw [Wire.decI_num n' n' (by omega) (by omega)] at hU
          have HU := Lib.hid hU
          clear hU hDx
          go_wp2_with fail
          have hbx0 := HBX.out.cell 1
          simp only [List.getElem?_toArray, List.getElem?_cons_zero, List.getElem?_cons_succ] at hbx0
          go_region_held3 (fun w' => w'.cell? ⟨wr.heap.size, 1, none⟩ = some (.int .i64 ((n' : Nat)))) (first | exact hbx0 | exact hbx2 | assumption) (first | (go_at_call 19; refine HU.out.mono ?_; rintro e w2 ⟨rfl, hb2, hO2⟩; have hbx2 := (HBX.out.keep hO2 (fun e => by omega)).cell 1; simp only [List.getElem?_toArray, List.getElem?_cons_zero, List.getElem?_cons_succ] at hbx2))
          all_goals
            go_wp2_with fail
            refine ⟨⟨j + 1, by omega, by go_num, ?_, below_one HBB.out hO2 hzr⟩, by simp [intOf]; omega⟩
            rw [HR.out] at hb2
            exact hb2
        · rw [show n.toNat = 0 by omega] at hDx
          have hU := dec_I 0 (by omega) _ (by have := Wire.num_le 0 (by omega); simp only [List.length_append]; omega) 0 _ _ hDx
          rw [Wire.decI_num 0 0 (by omega) (by omega)] at hU
          have HU := Lib.hid hU
          clear hU hDx
          go_wp2_with fail
          have hbx0 := HBX.out.cell 1
          simp only [List.getElem?_toArray, List.getElem?_cons_zero, List.getElem?_cons_succ] at hbx0
          go_region_held3 (fun w' => w'.cell? ⟨wr.heap.size, 1, none⟩ = some (.int .i64 (n))) (first | exact hbx0 | exact hbx2 | assumption) (first | (go_at_call 19; refine HU.out.mono ?_; rintro e w2 ⟨rfl, hb2, hO2⟩; have hbx2 := (HBX.out.keep hO2 (fun e => by omega)).cell 1; simp only [List.getElem?_toArray, List.getElem?_cons_zero, List.getElem?_cons_succ] at hbx2))
          all_goals
            go_wp2_with fail
            refine ⟨⟨j + 1, by omega, by go_num, ?_, below_one HBB.out hO2 hzr⟩, by simp [intOf]; omega⟩
            rw [HR.out] at hb2
            exact hb2
      by_cases k3 : kd = 3
      · subst k3
        have hbx : Blk (wr.alloc (.cells #[.int .i64 (3), .int .i64 (n), .int .i64 (m), .int .u64 (u : Int), .bool is, .string s, .slice tao tl.length tcap] 49)).drew wr.heap.size #[.int .i64 (3), .int .i64 (n), .int .i64 (m), .int .u64 (u : Int), .bool is, .string s, .slice tao tl.length tcap] 49 := Blk.new _ _ _
        have hDx : Blk (wr.alloc (.cells #[.int .i64 (3), .int .i64 (n), .int .i64 (m), .int .u64 (u : Int), .bool is, .string s, .slice tao tl.length tcap] 49)).drew wa.heap.size _ _ := hD1.alloc _
        have hBx : Below W.heap.size W (wr.alloc (.cells #[.int .i64 (3), .int .i64 (n), .int .i64 (m), .int .u64 (u : Int), .bool is, .string s, .slice tao tl.length tcap] 49)).drew := below_drew (hB1.alloc hB1.size _) 1
        have HBX := Lib.hid hbx
        have HBB := Lib.hid hBx
        clear hbx hBx hD1
        rw [show Th.put ⟨3, n, m, u, is, s, tao, tcap, tl⟩ = [if is then 1 else 0] by unfold Th.put; rw [if_neg k1, if_neg k2, if_pos rfl]] at hDx
        have hU := dec_B _ (by simp; omega) 0 _ _ hDx
        rw [show [if is then (1 : UInt8) else 0] ++ R = (if is then 1 else 0) :: R from rfl, Wire.decB_truth is] at hU
        have HU := Lib.hid hU
        clear hU hDx
        go_wp2_with fail
        have hbx0 := HBX.out.cell 4
        simp only [List.getElem?_toArray, List.getElem?_cons_zero, List.getElem?_cons_succ] at hbx0
        go_region_held3 (fun w' => w'.cell? ⟨wr.heap.size, 4, none⟩ = some (.bool is)) (first | exact hbx0 | exact hbx2 | assumption) (first | (go_at_call 20; refine HU.out.mono ?_; rintro e w2 ⟨rfl, hb2, hO2⟩; have hbx2 := (HBX.out.keep hO2 (fun e => by omega)).cell 4; simp only [List.getElem?_toArray, List.getElem?_cons_zero, List.getElem?_cons_succ] at hbx2))
        all_goals
          go_wp2_with fail
          refine ⟨⟨j + 1, by omega, by go_num, ?_, below_one HBB.out hO2 hzr⟩, by simp [intOf]; omega⟩
          rw [HR.out] at hb2
          exact hb2
      by_cases k4 : kd = 4
      · subst k4
        have hbx : Blk (wr.alloc (.cells #[.int .i64 (4), .int .i64 (n), .int .i64 (m), .int .u64 (u : Int), .bool is, .string s, .slice tao tl.length tcap] 49)).drew wr.heap.size #[.int .i64 (4), .int .i64 (n), .int .i64 (m), .int .u64 (u : Int), .bool is, .string s, .slice tao tl.length tcap] 49 := Blk.new _ _ _
        have hDx : Blk (wr.alloc (.cells #[.int .i64 (4), .int .i64 (n), .int .i64 (m), .int .u64 (u : Int), .bool is, .string s, .slice tao tl.length tcap] 49)).drew wa.heap.size _ _ := hD1.alloc _
        have hBx : Below W.heap.size W (wr.alloc (.cells #[.int .i64 (4), .int .i64 (n), .int .i64 (m), .int .u64 (u : Int), .bool is, .string s, .slice tao tl.length tcap] 49)).drew := below_drew (hB1.alloc hB1.size _) 1
        have HBX := Lib.hid hbx
        have HBB := Lib.hid hBx
        clear hbx hBx hD1
        obtain ⟨x, hx⟩ : ∃ x, x = bs (s.data.toList.take 200) := ⟨_, rfl⟩
        have hxs : x.size ≤ 200 := by rw [hx, bs_size]; simp; omega
        have hxl : x.data.toList.length = x.size := by simp
        rw [show Th.put ⟨4, n, m, u, is, s, tao, tcap, tl⟩ = Wire.num x.data.toList.length ++ x.data.toList by unfold Th.put; rw [if_neg k1, if_neg k2, if_neg k3, if_pos rfl]; simp only [← hx, Wire.text, hxl]] at hDx
        have hU := dec_S 200 (by omega) _ (by have := Wire.num_le x.data.toList.length (by omega); simp only [List.length_append]; omega) 0 _ _ hDx
        rw [Wire.decS_text 200 x.data.toList (by omega) (by omega), bs_of] at hU
        have HU := Lib.hid hU
        have HC : Hid (∀ wx, Calls Try.prog 12 #[.string s, .int .i64 (200)] wx (Same (.string x) wx)) := Lib.hid (fun wx => by rw [hx]; exact law_Cut s (by omega) 200 (by omega) wx)
        clear hU hDx hx hxl
        go_wp2_with fail
        have hbx0 := HBX.out.cell 5
        simp only [List.getElem?_toArray, List.getElem?_cons_zero, List.getElem?_cons_succ] at hbx0
        go_region_held3 (fun w' => w'.cell? ⟨wr.heap.size, 5, none⟩ = some (.string s)) (first | exact hbx0 | exact hbx2 | assumption) (first | (go_at_call 15; refine HU.out.mono ?_; rintro e w2 ⟨rfl, hb2, hO2⟩; have hbx2 := (HBX.out.keep hO2 (fun e => by omega)).cell 5; simp only [List.getElem?_toArray, List.getElem?_cons_zero, List.getElem?_cons_succ] at hbx2) | (go_at_call 12; refine (HC.out _).mono ?_; rintro e wz ⟨rfl, rfl⟩))
        all_goals
          go_wp2_with fail
          refine ⟨⟨j + 1, by omega, by go_num, ?_, below_one HBB.out hO2 hzr⟩, by simp [intOf]; omega⟩
          rw [HR.out] at hb2
          exact hb2
      by_cases k5 : kd = 5
      · subst k5
        have hbx := Blk.new wr #[.int .i64 (5), .int .i64 (n), .int .i64 (m), .int .u64 (u : Int), .bool is, .string s, .slice tao tl.length tcap] 49
        have hDx := hD1.alloc (.cells #[.int .i64 (5), .int .i64 (n), .int .i64 (m), .int .u64 (u : Int), .bool is, .string s, .slice tao tl.length tcap] 49)
        have hBx := hB1.alloc hB1.size (.cells #[.int .i64 (5), .int .i64 (n), .int .i64 (m), .int .u64 (u : Int), .bool is, .string s, .slice tao tl.length tcap] 49)
        have hszx : (wr.alloc (.cells #[.int .i64 (5), .int .i64 (n), .int .i64 (m), .int .u64 (u : Int), .bool is, .string s, .slice tao tl.length tcap] 49)).heap.size = wr.heap.size + 1 := by simp
        have HBX := Lib.hid hbx
        have HBB := Lib.hid hBx
        clear hbx hBx hD1
        rw [show Th.put ⟨5, n, m, u, is, s, tao, tcap, tl⟩ = Wire.num (tl.take 20).length ++ Wire.nums (tl.take 20) by unfold Th.put; rw [if_neg k1, if_neg k2, if_neg k3, if_neg k4, if_pos rfl]] at hDx
        have hx20 : (tl.take 20).length ≤ 20 := by simp; omega
        have hxt : (tl.take 20).length ≤ tl.length := by simp; omega
        have hxi : Hid (∀ (k : Nat) (hk : k < (tl.take 20).length) (hk2 : k < tl.length), (tl.take 20)[k] = tl[k]) := Lib.hid (fun k hk hk2 => by simp)
        have hmin : (if (20 : Int) < (tl.length : Int) then (20 : Int) else (tl.length : Int)) = ((tl.take 20).length : Int) := by rw [List.length_take]; split <;> omega
        have hx63 : ∀ x ∈ tl.take 20, x ≤ 9223372036854775807 := fun x hx => (o6 x (List.mem_of_mem_take hx)).2
        generalize tl.take 20 = xs at *
        have hL := dec_List 20 4611686018427387904 (by omega) (by omega) _ (by have h1 := Wire.num_le xs.length (by omega); have h2 := Wire.nums_le xs hx63; simp only [List.length_append]; omega) 0 _ _ hDx
        rw [hszx] at hL
        have HL := Lib.hid hL
        clear hL hDx hszx
        obtain ⟨q1, q2⟩ : tl.length ≤ tcap ∧ tcap ≤ 9223372036854775807 := by
          obtain ⟨_, _, ev, q1, q2, _, _⟩ := o7
          cases ev
          unfold maxLen at q2
          omega
        rcases Wire.decL_nums 4611686018427387904 xs hx20 hx63 R with hd | ⟨hd1, hd2⟩
        · rw [hd] at HL
          clear hd
          go_wp2_with fail
          refine HL.out.mono ?_; rintro e w2 ⟨gv, rfl, hown, hb2, hO2⟩
          have hbx2 := (HBX.out.keep hO2 hne).cell 6
          simp only [List.getElem?_toArray, List.getElem?_cons_zero, List.getElem?_cons_succ] at hbx2
          have hB2 := below_one HBB.out hO2 hzr
          simp only [List.length_map] at hown
          obtain ⟨go, gcap, rfl, _, gq, _, hgs⟩ := Sl.of_own hown
          unfold maxLen at gq
          have hc1 := hb2.cell 1
          simp only [List.getElem?_toArray, List.getElem?_cons_zero, List.getElem?_cons_succ] at hc1
          go_wp2_with fail
          go_loopw [99] (fun i wq => ∃ k : Nat, k ≤ xs.length ∧ i = .int .i64 (k) ∧ wq = w2) (fun i _ => xs.length - (intOf i).toNat)
          case atStart => exact ⟨0, by omega, rfl, rfl⟩
          obtain ⟨k, hk, rfl, rfl⟩ := hrel
          rcases Nat.lt_or_ge k xs.length with hkl | hkg
          · obtain ⟨gb, goff, rfl, _, hgc⟩ := hgs (by omega)
            have cg := hgc k (.int .i64 ((xs[k].toNat : Nat))) (by simp [natv, hkl])
            obtain ⟨_, _, ev, _, _, _, htl⟩ := o7
            cases ev
            obtain ⟨tb, toff, rfl, htb, htc⟩ := htl (by omega)
            have ct0 := htc k (.int .i64 (tl[k])) (by simp [i64v, show k < tl.length by omega])
            rw [← hxi.out k hkl (by omega)] at ct0
            have ct := (hB2.cell (p := ⟨tb, toff + k, none⟩) htb).trans ct0
            have hx := hx63 xs[k] (List.getElem_mem _)
            clear hgc htc htl hgs ct0 HL
            generalize xs[k] = x at *
            have hkt : (k : Int) < (tl.length : Int) := by omega
            by_cases h0 : 0 ≤ x
            · obtain ⟨x', rfl⟩ := Int.eq_ofNat_of_zero_le h0
              rw [show ((x' : Int)).toNat = x' from rfl] at cg
              go_wp2_with fail
              exact ⟨⟨k + 1, by omega, by go_num, by first | trivial | rfl⟩, by simp [intOf]; omega⟩
            · rw [show x.toNat = 0 by omega] at cg
              go_wp2_with fail
              exact ⟨⟨k + 1, by omega, by go_num, by first | trivial | rfl⟩, by simp [intOf]; omega⟩
          obtain rfl : k = xs.length := by omega
          have HE := Lib.hid (dec_Err _ _ _ _ hb2)
          clear HL hgs
          go_wp2_with fail
          refine HE.out.mono ?_; rintro e w3 ⟨rfl, rfl⟩
          go_wp2_with fail
          refine ⟨⟨j + 1, by omega, by go_num, ?_, hB2⟩, by simp [intOf]; omega⟩
          rw [HR.out] at hb2
          exact hb2
        · generalize Wire.decL 20 4611686018427387904 (Wire.num xs.length ++ Wire.nums xs ++ R) 0 = r at *
          obtain ⟨r1, r2, r3⟩ := r
          simp only at hd1 hd2
          subst hd1 hd2
          go_wp2_with fail
          refine HL.out.mono ?_; rintro e w2 ⟨gv, rfl, hown, hb2, hO2⟩
          have hbx2 := (HBX.out.keep hO2 hne).cell 6
          simp only [List.getElem?_toArray, List.getElem?_cons_zero, List.getElem?_cons_succ] at hbx2
          have hB2 := below_one HBB.out hO2 hzr
          obtain ⟨go, gcap, rfl, _, gq, _, hgs⟩ := Sl.of_own hown
          unfold maxLen at gq
          have HE := Lib.hid (dec_Err _ _ _ _ hb2)
          clear HL hgs
          by_cases hx0 : xs.length = 0
          · go_wp2_with fail
            go_loopw [99] (fun i wq => i = .int .i64 (0) ∧ wq = w2) (fun _ _ => 0)
            case atStart => exact ⟨rfl, rfl⟩
            obtain ⟨rfl, rfl⟩ := hrel
            go_wp2_with fail
            refine HE.out.mono ?_; rintro e w3 ⟨rfl, rfl⟩
            go_wp2_with fail
            refine HE.out.mono ?_; rintro e w3 ⟨rfl, rfl⟩
            go_wp2_with fail
            go_ret
            exact ⟨rfl, hB2⟩
          · have hx1 : ¬ ((0 : Int) = (xs.length : Int)) := by omega
            go_wp2_with fail
            refine HE.out.mono ?_; rintro e w3 ⟨rfl, rfl⟩
            go_wp2_with fail
            go_loopw [99] (fun i wq => i = .int .i64 (0) ∧ wq = w2) (fun _ _ => 0)
            case atStart => exact ⟨rfl, rfl⟩
            obtain ⟨rfl, rfl⟩ := hrel
            go_wp2_with fail
            refine HE.out.mono ?_; rintro e w3 ⟨rfl, rfl⟩
            go_wp2_with fail
            refine HE.out.mono ?_; rintro e w3 ⟨rfl, rfl⟩
            go_wp2_with fail
            go_ret
            exact ⟨rfl, hB2⟩
      · rw [show Th.put ⟨kd, n, m, u, is, s, tao, tcap, tl⟩ = [] by unfold Th.put; rw [if_neg k1, if_neg k2, if_neg k3, if_neg k4, if_neg k5]] at hD1
        have hDx := hD1.alloc (.cells #[.int .i64 (kd), .int .i64 (n), .int .i64 (m), .int .u64 (u : Int), .bool is, .string s, .slice tao tl.length tcap] 49)
        have hBx := hB1.alloc hB1.size (.cells #[.int .i64 (kd), .int .i64 (n), .int .i64 (m), .int .u64 (u : Int), .bool is, .string s, .slice tao tl.length tcap] 49)
        clear hD1
        go_wp2_with fail
        refine ⟨⟨j + 1, by omega, by go_num, ?_, hBx⟩, by simp [intOf]; omega⟩
        rw [HR.out] at hDx
        exact hDx
    obtain rfl : j = us.length := by omega
    rw [List.drop_length] at hD1
    have HF := Lib.hid (dec_Done _ _ _ _ hD1)
    rcases Nat.lt_or_ge us.length TL with h7 | h7
    all_goals (go_wp2_with fail)
    all_goals
      refine HF.out.mono ?_; rintro e w3 ⟨rfl, hb3, hO3⟩
      have hd : Wire.decD ([].flatMap Th.put) 0 = 0 := rfl
      rw [hd]
      go_wp2_with fail
      go_ret
      exact ⟨rfl, below_one hB1 hO3 hzr⟩
namespace WireBack
open Go.ChangeShapes Go.WideShapes Go.ChangeAt Go.RowKit
set_option linter.unusedVariables false
theorem own : ownKnob Try.prog.godebug = none := by kernel_rfl
theorem laidOut : laidOutB Try.prog = true := by kernel_rfl
set_option maxRecDepth 100000 in
theorem lifted (os : Os) (started : os.Started) (H : Type) (enc : TypeId × Value → H) :
    ReturnsInHanded {} Try.checked os 6 .any (Rows.wireBackSpec.pre6 enc Try.prog Try.f6 Rows.wireBackRow.domain false) (Rows.wireBackSpec.post enc Try.prog Try.f6 false true false false) := by
  refine returnsInHanded_of_change (C := Try.checked) own started (by kernel_rfl) Try.func6
    (ChangeSpec.witness6 (enc := enc) (C := Try.checked) false ⟨#[], #[.slice none 0 0], []⟩ 8 (by kernel_rfl) (by kernel_rfl) (by kernel_rfl) (by kernel_rfl)) ?_
  intro W base args ds gs before hval0 hW hcnd _
  have hval : ∀ (j : Nat) t v, Try.f6.params[j]? = some t → args[j]? = some v → Value.okWide Try.prog W .any base t v := hval0
  have hW' := hW
  obtain ⟨p, q, hA0, hV, rfl, hfz, hnd⟩ := hW
  have hA : DataW.TrodAll enc Try.prog W 0 (fun _ => true) true Try.f6.params.toList args.toList ds p := hA0
  rw [Try.params6] at hA hval
  obtain ⟨v0, vs0, d0, ds0, p0, q0, hargs, rfl, rfl, h0, r0⟩ := trodAll_cons hA
  obtain ⟨rfl, rfl, rfl⟩ := trodAll_nil r0
  obtain rfl : args = #[v0] := by cases args; simp_all
  obtain ⟨rfl, rfl⟩ := trodVars_none hV
  have lt0 : ∀ x ∈ p0, x.block < W.heap.size := by obtain ⟨m, hm⟩ := h0; exact DataW.trod_lt m _ _ _ hm
  obtain ⟨x0, w0⟩ := arg_open (Kd.slice KThing) h0 (hval 0 _ v0 rfl rfl) (by kernel_rfl)
  clear hA0 hval0
  refine (WireBack_walk W v0 x0 w0).mono fun e W' ⟨he, bel⟩ => ?_
  subst he
  exact ⟨_, rfl, _, _, _, [], _, [], hW', trodAll_mk1 (shut_bool (by kernel_rfl) _), (trodAll_cons_mk (Below.trod laidOut (by kernel_rfl) (of_decide_eq_true (by kernel_rfl)) h0 bel lt0) trodAll_mk0), rfl, bel.frame _, fun h => by cases h⟩

theorem over : Rows.wireBackRow.holds Try.pinned (OpenSpec.ofChange Rows.wireBackSpec) :=
  OpenClaim.holds_of_wide 6 Try.f6 rfl rfl rfl rfl rfl rfl rfl ⟨rfl, rfl, rfl, rfl, rfl⟩ rfl rfl rfl rfl rfl (by kernel_rfl) Try.func6 (by kernel_rfl)
    (of_decide_eq_true (by kernel_rfl)) (by unfold Func.isWrapper; rw [if_neg (of_decide_eq_false (by kernel_rfl))]; exact ⟨rfl, rfl⟩)
    (fun os started H enc _ => lifted os started H enc)
/-- THE STATEMENT. -/
theorem proved : Rows.WireBackSaid := over
#print axioms proved
end WireBack
end Go.Proofs.Ythegfbfggbpahaa
