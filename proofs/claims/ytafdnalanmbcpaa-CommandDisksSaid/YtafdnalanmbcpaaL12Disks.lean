/- Disks rise, each once: the statement CommandDisks holds of all arguments. No condition. -/
import Derived.Test.YtafdnalanmbcpaaL12Arg
set_option linter.unusedSimpArgs false
set_option linter.unusedVariables false
namespace Go.Proofs.Ytafdnalanmbcpaa
open Go.RowKit
set_option maxHeartbeats 4000000
set_option maxRecDepth 100000

namespace Cmd
/-- which of the six disks are in p -/
def hasL (p : List Int) : List Bool := [decide ((0 : Int) ∈ p), decide ((1 : Int) ∈ p), decide ((2 : Int) ∈ p), decide ((3 : Int) ∈ p), decide ((4 : Int) ∈ p), decide ((5 : Int) ∈ p)]
theorem hasL_get (p : List Int) (m : Nat) (h : m < 6) : (hasL p)[m]? = some (decide ((m : Int) ∈ p)) := by
  rcases (by omega : m = 0 ∨ m = 1 ∨ m = 2 ∨ m = 3 ∨ m = 4 ∨ m = 5) with rfl | rfl | rfl | rfl | rfl | rfl <;> rfl
theorem hasL_set (p : List Int) (m : Nat) (h : m < 6) : hasL (p ++ [(m : Int)]) = (hasL p).set m true := by
  rcases (by omega : m = 0 ∨ m = 1 ∨ m = 2 ∨ m = 3 ∨ m = 4 ∨ m = 5) with rfl | rfl | rfl | rfl | rfl | rfl <;> simp [hasL]
theorem hasL_out (p : List Int) (x : Int) (h : x < 0 ∨ 6 ≤ x ∨ x ∈ p) : hasL (p ++ [x]) = hasL p := by
  have hm : ∀ y : Int, 0 ≤ y → y < 6 → (decide (y ∈ p ++ [x]) = decide (y ∈ p)) := by
    intro y h0 h6
    by_cases e : y = x
    · subst e
      have : y ∈ p := by rcases h with h | h | h <;> first | omega | exact h
      simp [this]
    · simp [e]
  simp only [hasL, hm 0 (by omega) (by omega), hm 1 (by omega) (by omega), hm 2 (by omega) (by omega), hm 3 (by omega) (by omega), hm 4 (by omega) (by omega), hm 5 (by omega) (by omega)]
theorem diskTo_count (p : List Int) : (diskTo p 6).length = (hasL p).count true := by
  have h : ∀ k, (diskTo p (k + 1)).length = (diskTo p k).length + (if (k : Int) ∈ p then 1 else 0) := by
    intro k
    rw [diskTo]
    split <;> simp
  rw [h 5, h 4, h 3, h 2, h 1, h 0]
  simp only [hasL, List.count_cons, List.count_nil, diskTo, List.length_nil, beq_iff_eq, decide_eq_true_eq]
  show ((((((0 + if (0 : Int) ∈ p then 1 else 0) + if (1 : Int) ∈ p then 1 else 0) + if (2 : Int) ∈ p then 1 else 0) + if (3 : Int) ∈ p then 1 else 0) + if (4 : Int) ∈ p then 1 else 0) + if (5 : Int) ∈ p then 1 else 0) = _
  generalize (if (0 : Int) ∈ p then 1 else 0) = a0
  generalize (if (1 : Int) ∈ p then 1 else 0) = a1
  generalize (if (2 : Int) ∈ p then 1 else 0) = a2
  generalize (if (3 : Int) ∈ p then 1 else 0) = a3
  generalize (if (4 : Int) ∈ p then 1 else 0) = a4
  generalize (if (5 : Int) ∈ p then 1 else 0) = a5
  omega
theorem count_set_new (l : List Bool) (m : Nat) (h : l[m]? = some false) : (l.set m true).count true = l.count true + 1 := by
  obtain ⟨hm, he⟩ := List.getElem?_eq_some_iff.1 h
  rw [List.count_set hm, he]
  simp
theorem rise_lt (p : Int) (l : List Int) (h : rise p l = true) : ∀ i (hi : i + 1 < l.length), l[i] < l[i + 1] := by
  induction l generalizing p with
  | nil => intro i hi; simp at hi
  | cons d l ih =>
    simp only [rise, Bool.and_eq_true, decide_eq_true_eq] at h
    intro i hi
    cases i with
    | zero =>
      cases l with
      | nil => simp at hi
      | cons e l =>
        have := h.2
        simp only [rise, Bool.and_eq_true, decide_eq_true_eq] at this
        exact this.1.1
    | succ i => exact ih d h.2 i (by simpa using hi)
end Cmd
theorem Sl.cut12 {w : World} {ao : Option Addr} {n m cap : Nat} {xs : List Value} (h : Sl w (.slice ao n cap) n 1 xs) (hm : m ≤ n) : Sl w (.slice ao m cap) m 1 (xs.take m) := by
  obtain ⟨ao', cap', e, h2, h3, h4, h5⟩ := h
  cases e
  refine ⟨_, _, rfl, by omega, h3, by simp; omega, fun hp => ?_⟩
  obtain ⟨b, off, e, hb, hc⟩ := h5 (by omega)
  refine ⟨b, off, e, hb, fun j u hu => hc j u ?_⟩
  rw [List.getElem?_take] at hu
  split at hu
  · exact hu
  · cases hu

theorem CommandDisks_walk (W : World) (v0 : Value) (x0 : (Kd.slice (.int .i64)).den) (w0 : (Kd.slice (.int .i64)).Arg W v0 x0) : Calls Try.prog 5 #[v0] W (Done W) := by
  obtain ⟨xs, rfl⟩ : ∃ l : List Int, l = x0 := ⟨_, rfl⟩
  obtain ⟨ao, cap, rfl, p0, q0, b0, s0⟩ := cmd_row w0
  clear w0
  unfold maxLen at q0
  obtain ⟨m, hm, hml, hm20⟩ : ∃ m : Nat, (if (20 : Int) < (xs.length : Int) then (20 : Int) else (xs.length : Int)) = m ∧ m ≤ xs.length ∧ m ≤ 20 := ⟨min 20 xs.length, by split <;> omega, by omega, by omega⟩
  have S0 := s0.cut12 hml
  rw [i64v, ← List.map_take, ← i64v] at S0
  obtain ⟨l, hl⟩ : ∃ l, l = xs.take m := ⟨_, rfl⟩
  rw [← hl] at S0
  obtain rfl : l.length = m := by rw [hl]; simp; omega
  clear hl s0 b0
  have HD := Lib.hid (cmd_Disk l ao cap W S0)
  (go_enter Try.func5, Try.ntmps5)
  go_wp2_with fail
  refine HD.out.mono ?_; rintro e w1 ⟨v, rfl, hown, hB⟩
  have hr6 := Cmd.rise_diskTo l 6 (Nat.le_refl _)
  have hl6 := Cmd.diskTo_len l 6
  have hm6 := Cmd.rise_mem _ _ hr6
  have hlt6 := Cmd.rise_lt _ _ hr6
  have hin6 : ∀ x ∈ Cmd.diskTo l 6, x ∈ l := fun x hx => ((Cmd.mem_diskTo l 6 x).1 hx).2
  have hcnt := Cmd.diskTo_count l
  generalize Cmd.diskTo l 6 = ds at *
  obtain ⟨eao, ecap, rfl, eq1, eq2, _, hep⟩ := Sl.of_own hown
  unfold maxLen at eq2
  obtain ⟨_, _, ev, _, _, _, hpos⟩ := S0
  cases ev
  have Hcnt := Lib.hid hcnt
  clear hcnt
  have hmk : ∀ w, (Instr.makeSlice 39 (.int .i64 6) (.int .i64 6)).run Try.prog w = .ok (.slice (some ⟨w.heap.size, 0, none⟩) 6 6) (w.alloc (.cells #[.bool false, .bool false, .bool false, .bool false, .bool false, .bool false] 4)) := fun _ => by kernel_rfl
  have hg0 := Blk.new w1 #[.bool false, .bool false, .bool false, .bool false, .bool false, .bool false] 4
  have hB2 := hB.alloc hB.size (.cells #[.bool false, .bool false, .bool false, .bool false, .bool false, .bool false] 4)
  have hown2 := hown.alloc (.cells #[.bool false, .bool false, .bool false, .bool false, .bool false, .bool false] 4)
  have hlt1 : w1.heap.size < (w1.alloc (.cells #[.bool false, .bool false, .bool false, .bool false, .bool false, .bool false] 4)).heap.size := by simp
  generalize hw2 : w1.alloc (.cells #[.bool false, .bool false, .bool false, .bool false, .bool false, .bool false] 4) = w2 at *
  have Hw2 := Lib.hid hw2
  have Hmk := Lib.hid hmk
  clear hw2 hmk
  go_wp2_with fail
  rw [Hmk.out, Hw2.out]
  have hz1 := hB.size
  go_wp2_with fail
  go_loopw [20, 5] (fun i n wr => ∃ j : Nat, j ≤ l.length ∧ i = .int .i64 (j) ∧ n = .int .i64 ((((Cmd.hasL (l.take j)).count true : Nat) : Int)) ∧ Blk wr w1.heap.size (boolv (Cmd.hasL (l.take j))).toArray 4 ∧ Only (· = w1.heap.size) w2 wr) (fun i _ _ => l.length - (intOf i).toNat)
  case atStart => exact ⟨0, by omega, rfl, rfl, hg0, Only.refl _ _⟩
  obtain ⟨j, hj, rfl, rfl, hg, hO⟩ := hrel
  rcases Nat.lt_or_ge j l.length with hlt | hge
  · obtain ⟨bb, off, rfl, hb1, hcell⟩ := hpos (by omega)
    have hc := (hO.cell (p := ⟨bb, off + j, none⟩) (Nat.lt_of_lt_of_le hb1 hB2.size) (by simp only; omega)).trans ((hB2.cell (p := ⟨bb, off + j, none⟩) hb1).trans (hcell j (.int .i64 (l[j])) (by simp [i64v, hlt])))
    have htk : Hid (l.take (j + 1) = l.take j ++ [l[j]]) := Lib.hid (take_snoc' l j hlt)
    generalize l[j] = x at *
    generalize l.take j = p at *
    clear hcell hpos hep
    by_cases hx : 0 ≤ x ∧ x < 6
    · obtain ⟨hx0, hx6⟩ := hx
      obtain ⟨m, rfl⟩ := Int.eq_ofNat_of_zero_le hx0
      have hm6' : m < 6 := by omega
      have hgm := hg.cell m
      rw [List.getElem?_toArray, boolv, List.getElem?_map, Cmd.hasL_get p m hm6'] at hgm
      simp only [Option.map_some] at hgm
      have hgf := hg.frozen m
      by_cases hmem : (m : Int) ∈ p
      · rw [decide_eq_true hmem] at hgm
        have hst : Hid (Cmd.hasL (p ++ [(m : Int)]) = Cmd.hasL p) := Lib.hid (Cmd.hasL_out p m (Or.inr (Or.inr hmem)))
        go_wp2_with fail
        exact ⟨⟨j + 1, by omega, by go_num, by rw [htk.out, hst.out], by rw [htk.out, hst.out]; exact hg, hO⟩, by simp [intOf]; omega⟩
      · have hcn : Hid ((Cmd.hasL (p ++ [(m : Int)])).count true = (Cmd.hasL p).count true + 1) := Lib.hid (by rw [Cmd.hasL_set p m hm6']; exact Cmd.count_set_new _ _ (by rw [Cmd.hasL_get p m hm6', decide_eq_false hmem]))
        rw [decide_eq_false hmem] at hgm
        have hcl : (Cmd.hasL p).count true ≤ 6 := List.count_le_length ..
        have hset : Hid (boolv (Cmd.hasL (p ++ [(m : Int)])) = (boolv (Cmd.hasL p)).set m (.bool true)) := Lib.hid (by rw [Cmd.hasL_set p m hm6']; simp [boolv])
        have hgs := hg.set m (.bool true)
        rw [List.setIfInBounds_toArray] at hgs
        generalize (Cmd.hasL p).count true = cn at *
        go_wp2_with fail
        refine ⟨⟨j + 1, by omega, by go_num, by rw [htk.out, hcn.out]; go_num, by rw [htk.out, hset.out]; exact hgs, hO.setCell _ _ (fun _ => rfl)⟩, by simp [intOf]; omega⟩
    · have hst : Hid (Cmd.hasL (p ++ [x]) = Cmd.hasL p) := Lib.hid (Cmd.hasL_out p x (by omega))
      rcases (by omega : x < 0 ∨ (0 ≤ x ∧ 6 ≤ x)) with hx1 | ⟨hx1, hx2⟩
      · go_wp2_with fail
        exact ⟨⟨j + 1, by omega, by go_num, by rw [htk.out, hst.out], by rw [htk.out, hst.out]; exact hg, hO⟩, by simp [intOf]; omega⟩
      · go_wp2_with fail
        exact ⟨⟨j + 1, by omega, by go_num, by rw [htk.out, hst.out], by rw [htk.out, hst.out]; exact hg, hO⟩, by simp [intOf]; omega⟩
  obtain rfl : j = l.length := by omega
  rw [List.take_length] at hg
  rw [List.take_length]
  rw [← Hcnt.out]
  have hge1 := own_ge hown
  have hownr := own_keep hown2 hO (fun g hg e => by
    have := (hown.lt g hg).2
    omega)
  have hBr := below_one hB2 hO (by omega)
  obtain ⟨_, _, ev, _, _, _, her⟩ := Sl.of_own hownr
  cases ev
  generalize wr = wa at *
  clear hpos hep hO hown hown2 hownr hg0 hge
  go_wp2_with fail
  go_loopw [45] (fun i wq => ∃ k : Nat, k ≤ ds.length ∧ i = .int .i64 (k) ∧ wq = wa) (fun i _ => ds.length - (intOf i).toNat)
  case atStart => exact ⟨0, by omega, rfl, rfl⟩
  obtain ⟨k, hk, rfl, rfl⟩ := hrel
  rcases Nat.lt_or_ge k ds.length with hlt | hge
  · obtain ⟨eb, eoff, rfl, _, hcell⟩ := her (by omega)
    have hc := hcell k (.int .i64 (ds[k])) (by simp [i64v, hlt])
    obtain ⟨hx0, hx6⟩ := hm6 ds[k] (List.getElem_mem hlt)
    have hxl := hin6 ds[k] (List.getElem_mem hlt)
    have hprev : 0 < k → ∃ y : Int, wr.cell? ⟨eb, eoff + (k - 1), none⟩ = some (.int .i64 (y)) ∧ y < ds[k] := fun h => ⟨ds[k - 1], hcell (k - 1) _ (by simp [i64v, show k - 1 < ds.length by omega]), by have := hlt6 (k - 1) (by omega); simpa [show k - 1 + 1 = k by omega] using this⟩
    generalize ds[k] = x at *
    obtain ⟨m, rfl⟩ := Int.eq_ofNat_of_zero_le (by omega : 0 ≤ x)
    have hm6' : m < 6 := by omega
    have hgm := hg.cell m
    rw [List.getElem?_toArray, boolv, List.getElem?_map, Cmd.hasL_get l m hm6', decide_eq_true hxl] at hgm
    simp only [Option.map_some] at hgm
    clear hcell her
    rcases Nat.eq_zero_or_pos k with rfl | hkp
    · rw [Nat.add_zero] at hc
      go_wp2_with fail
      exact ⟨⟨1, by omega, by go_num, by first | trivial | rfl⟩, by simp [intOf]; omega⟩
    · obtain ⟨y, hy, hyx⟩ := hprev hkp
      obtain ⟨k', rfl⟩ : ∃ k', k = k' + 1 := ⟨k - 1, by omega⟩
      rw [show k' + 1 - 1 = k' by omega] at hy
      clear hprev
      go_wp2_with fail
      exact ⟨⟨k' + 1 + 1, by omega, by go_num, by first | trivial | rfl⟩, by simp [intOf]; omega⟩
  obtain rfl : k = ds.length := by omega
  go_wp2_with fail
  refine (awake_any _).mono ?_; rintro e w9 ⟨rfl, hB9⟩
  go_wp2_with fail
  go_ret
  exact ⟨rfl, hBr.trans (hB9.mono hBr.size)⟩
namespace CommandDisks
open Go.ChangeShapes Go.WideShapes Go.ChangeAt Go.RowKit
set_option linter.unusedVariables false
theorem own : ownKnob Try.prog.godebug = none := by kernel_rfl
theorem laidOut : laidOutB Try.prog = true := by kernel_rfl
set_option maxRecDepth 100000 in
theorem lifted (os : Os) (started : os.Started) (H : Type) (enc : TypeId × Value → H) :
    ReturnsInHanded {} Try.checked os 5 .any (Rows.commandDisksSpec.pre6 enc Try.prog Try.f5 Rows.commandDisksRow.domain false) (Rows.commandDisksSpec.post enc Try.prog Try.f5 false true false false) := by
  refine returnsInHanded_of_change (C := Try.checked) own started (by kernel_rfl) Try.func5
    (ChangeSpec.witness6 (enc := enc) (C := Try.checked) false ⟨#[], #[.slice none 0 0], []⟩ 8 (by kernel_rfl) (by kernel_rfl) (by kernel_rfl) (by kernel_rfl)) ?_
  intro W base args ds gs before hval0 hW hcnd _
  have hval : ∀ (j : Nat) t v, Try.f5.params[j]? = some t → args[j]? = some v → Value.okWide Try.prog W .any base t v := hval0
  have hW' := hW
  obtain ⟨p, q, hA0, hV, rfl, hfz, hnd⟩ := hW
  have hA : DataW.TrodAll enc Try.prog W 0 (fun _ => true) true Try.f5.params.toList args.toList ds p := hA0
  rw [Try.params5] at hA hval
  obtain ⟨v0, vs0, d0, ds0, p0, q0, hargs, rfl, rfl, h0, r0⟩ := trodAll_cons hA
  obtain ⟨rfl, rfl, rfl⟩ := trodAll_nil r0
  obtain rfl : args = #[v0] := by cases args; simp_all
  obtain ⟨rfl, rfl⟩ := trodVars_none hV
  have lt0 : ∀ x ∈ p0, x.block < W.heap.size := by obtain ⟨m, hm⟩ := h0; exact DataW.trod_lt m _ _ _ hm
  obtain ⟨x0, w0⟩ := arg_open (Kd.slice (.int .i64)) h0 (hval 0 _ v0 rfl rfl) (by kernel_rfl)
  clear hA0 hval0
  refine (CommandDisks_walk W v0 x0 w0).mono fun e W' ⟨he, bel⟩ => ?_
  subst he
  exact ⟨_, rfl, _, _, _, [], _, [], hW', trodAll_mk1 (shut_bool (by kernel_rfl) _), (trodAll_cons_mk (Below.trod laidOut (by kernel_rfl) (of_decide_eq_true (by kernel_rfl)) h0 bel lt0) trodAll_mk0), rfl, bel.frame _, fun h => by cases h⟩

theorem over : Rows.commandDisksRow.holds Try.pinned (OpenSpec.ofChange Rows.commandDisksSpec) :=
  OpenClaim.holds_of_wide 5 Try.f5 rfl rfl rfl rfl rfl rfl rfl ⟨rfl, rfl, rfl, rfl, rfl⟩ rfl rfl rfl rfl rfl (by kernel_rfl) Try.func5 (by kernel_rfl)
    (of_decide_eq_true (by kernel_rfl)) (by unfold Func.isWrapper; rw [if_neg (of_decide_eq_false (by kernel_rfl))]; exact ⟨rfl, rfl⟩)
    (fun os started H enc _ => lifted os started H enc)
/-- THE STATEMENT. -/
theorem proved : Rows.CommandDisksSaid := over
#print axioms proved
end CommandDisks
end Go.Proofs.Ytafdnalanmbcpaa
