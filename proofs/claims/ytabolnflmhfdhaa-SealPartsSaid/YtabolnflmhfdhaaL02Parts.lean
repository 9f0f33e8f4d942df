/- SealParts: the sum of texts is that of their bytes, in any parts. No condition. -/
import Derived.Test.YtabolnflmhfdhaaL02A
import Derived.Test.YtabolnflmhfdhaaRegionInv
set_option linter.unusedSimpArgs false
set_option linter.unusedVariables false
namespace Go.Proofs.Ytabolnflmhfdhaa
open Go.RowKit

theorem two_parts (t : ByteArray) (A : Nat) (h : A ≤ t.size) : cat [t.extract 0 A, t.extract A t.size] = t.data.toList := by
  rw [extract_bs, extract_bs]
  simp only [cat, List.flatMap_cons, List.flatMap_nil, bs_toList, List.append_nil, Nat.sub_zero, List.drop_zero]
  rw [List.take_of_length_le (l := List.drop A t.data.toList) (by simp), List.take_append_drop]
theorem three_parts (t : ByteArray) (A B : Nat) (h : A ≤ B) (h2 : B ≤ t.size) : cat [t.extract 0 A, t.extract A B, t.extract B t.size] = t.data.toList := by
  rw [extract_bs, extract_bs, extract_bs]
  simp only [cat, List.flatMap_cons, List.flatMap_nil, bs_toList, List.append_nil, Nat.sub_zero, List.drop_zero]
  rw [List.take_of_length_le (l := List.drop B t.data.toList) (by simp)]
  have e : t.data.toList.drop B = (t.data.toList.drop A).drop (B - A) := by rw [List.drop_drop]; congr 1; omega
  rw [e, List.take_append_drop, List.take_append_drop]
/-- a literal row at a block -/
def LitG (n : Nat) (cs : List Value) (U : TypeId) (v : Value) (w : World) : Prop := ∃ g, v = .slice (some ⟨g, 0, none⟩) n n ∧ Blk w g cs.toArray U
theorem LitG.keep {n : Nat} {cs : List Value} {U : TypeId} {v : Value} {w w' : World} (h : LitG n cs U v w) (k : Below w.heap.size w w') : LitG n cs U v w' := by
  obtain ⟨g, e, hb⟩ := h
  exact ⟨g, e, hb.keep (only_of_below k (fun _ => False)) (fun e => e)⟩
theorem getD_bool {o : Option Value} {b : Bool} (h : o.getD undef = .bool b) : o = some (.bool b) := by
  cases o with
  | none => exact absurd h (by unfold undef; simp)
  | some v => simpa using h
set_option maxRecDepth 100000 in
set_option maxHeartbeats 8000000 in
theorem SealParts_walk (W : World) (v0 v1 v2 v3 : Value) (x0 : Kd.str.den) (w0 : Kd.str.Arg W v0 x0) (x1 : (Kd.int .i64).den) (w1 : (Kd.int .i64).Arg W v1 x1) (x2 : (Kd.int .i64).den) (w2 : (Kd.int .i64).Arg W v2 x2) (x3 : (Kd.int .u8).den) (w3 : (Kd.int .u8).Arg W v3 x3) :
    Calls Try.prog 3 #[v0, v1, v2, v3] W (Done W) := by
  obtain ⟨s0, rfl⟩ : ∃ s : ByteArray, s = x0 := ⟨_, rfl⟩
  obtain ⟨a, rfl⟩ : ∃ n : Int, n = x1 := ⟨_, rfl⟩
  obtain ⟨b, rfl⟩ : ∃ n : Int, n = x2 := ⟨_, rfl⟩
  obtain ⟨c, rfl⟩ : ∃ n : Int, n = x3 := ⟨_, rfl⟩
  obtain ⟨rfl, hs0⟩ := w0
  obtain ⟨rfl, wa⟩ := w1
  obtain ⟨rfl, wb⟩ := w2
  obtain ⟨rfl, wc⟩ := w3
  have hc : 0 ≤ c ∧ c ≤ 255 := by simpa [Lit.wf, IntKind.min, IntKind.max, IntKind.signed, IntKind.bits] using wc
  obtain ⟨wa1, wa2⟩ := wf_i64 wa
  obtain ⟨wb1, wb2⟩ := wf_i64 wb
  clear wa wb wc
  obtain ⟨c', rfl⟩ : ∃ u : UInt8, c = u.toNat := ⟨UInt8.ofNat c.toNat, by simp; omega⟩
  clear hc
  obtain ⟨t, ht⟩ : ∃ t, t = bs (s0.data.toList.take 150) := ⟨_, rfl⟩
  have hcut := cut_any s0 150 150 rfl t ht hs0
  have hts : t.size ≤ 150 := by rw [ht, bs_size]; simp; omega
  have Hcut := Lib.hid hcut
  clear hcut ht hs0
  obtain ⟨A0, hA0⟩ : ∃ n : Nat, (if a < 0 then 0 else a) = (n : Int) := ⟨a.toNat, by omega⟩
  obtain ⟨A, hA, hAt⟩ : ∃ n : Nat, (if t.size < A0 then (t.size : Int) else A0) = (n : Int) ∧ n ≤ t.size := ⟨min A0 t.size, by omega, by omega⟩
  obtain ⟨B0, hB0, hAB0⟩ : ∃ n : Nat, (if b < A then (A : Int) else b) = (n : Int) ∧ A ≤ n := ⟨max b.toNat A, by omega, by omega⟩
  obtain ⟨B, hBb, hBt, hAB⟩ : ∃ n : Nat, (if t.size < B0 then (t.size : Int) else B0) = (n : Int) ∧ n ≤ t.size ∧ A ≤ n := ⟨min B0 t.size, by omega, by omega, by omega⟩
  (go_enter Try.func3, Try.ntmps3)
  go_wp2_with fail
  refine (Hcut.out _).mono ?_; rintro e w1 ⟨rfl, rfl⟩
  go_wp2_with fail
  refine (seal_sum _ 1 [t] _ (by exact Sl.lit (Blk.new' (by simp)) (by decide) rfl) (by intro x hx; simp only [List.mem_cons, List.not_mem_nil, or_false] at hx; subst hx; unfold maxLen; omega)).mono ?_; rintro e wq ⟨rfl, rfl⟩
  have q1 : cat [t] = t.data.toList := by simp [cat]
  rw [q1]
  clear q1
  have hk0 := Seal.sumL_lt t.data.toList
  generalize hk : Seal.sumL t.data.toList = k at *
  have Hk := Lib.hid hk
  clear hk
  go_wp2_with fail
  have hB1 : Below W.heap.size W (W.alloc (.cells #[.string t] 9)) := (Below.refl _ _).alloc (Nat.le_refl _) _
  have q3 : Seal.sumL (cat [t.extract 0 A, t.extract A B, t.extract B t.size]) = k := by
    rw [← Hk.out, three_parts t A B hAB hBt]
  have h3 := fun (v : Value) (w : World) (h : Sl w v 3 1 [.string (t.extract 0 A), .string (t.extract A B), .string (t.extract B t.size)]) => seal_sum v 3 [t.extract 0 A, t.extract A B, t.extract B t.size] w h (by intro x hx; simp only [List.mem_cons, List.not_mem_nil, or_false] at hx; unfold maxLen; rcases hx with rfl | rfl | rfl <;> simp <;> omega)
  rw [q3] at h3
  have H3 := Lib.hid h3
  clear h3 q3
  have h2 := fun (v : Value) (w : World) (h : Sl w v 2 1 [.string t, .string (bs [c'])]) => seal_sum v 2 [t, bs [c']] w h (by intro x hx; simp only [List.mem_cons, List.not_mem_nil, or_false] at hx; rcases hx with rfl | rfl; unfold maxLen; omega; unfold maxLen; rw [bs_size]; simp)
  have q2 : cat [t, bs [c']] = t.data.toList ++ [c'] := by simp [cat, bs_toList]
  rw [q2] at h2
  have h1 := fun (v : Value) (w : World) (h : Sl w v 1 1 [.string (t ++ bs [c'])]) => seal_sum v 1 [t ++ bs [c']] w h (by intro x hx; simp only [List.mem_cons, List.not_mem_nil, or_false] at hx; subst hx; rw [app_bs, bs_size]; unfold maxLen; simp; omega)
  have q1 : cat [t ++ bs [c']] = t.data.toList ++ [c'] := by rw [app_bs]; simp [cat, bs_toList]
  rw [q1] at h1
  generalize Seal.sumL (t.data.toList ++ [c']) = k2 at *
  have H2 := Lib.hid h2
  have H1 := Lib.hid h1
  clear h1 h2 q1 q2
  have f2 := fun (v : Value) (w : World) (h : Sl w v 2 1 [.string (t.extract 0 A), .string (t.extract A t.size)]) (hz : ∀ l c, v = .slice none l c → c = 0) => seal_frame v 2 [t.extract 0 A, t.extract A t.size] w h (by rw [two_parts t A hAt]; simp; omega) (by decide) hz
  rw [two_parts t A hAt] at f2
  have f1 := fun (v : Value) (w : World) (h : Sl w v 1 1 [.string t]) (hz : ∀ l c, v = .slice none l c → c = 0) => seal_frame v 1 [t] w h (by simp [cat]; omega) (by decide) hz
  rw [show cat [t] = t.data.toList by simp [cat]] at f1
  generalize bs (Seal.frame t.data.toList) = fr at *
  have F2 := Lib.hid f2
  have F1 := Lib.hid f1
  clear f1 f2
  have cv := conv_one (P := Try.prog) (src := 26) (dst := 9) (e := 5) Try.underlying26 Try.underlying5 Try.underlying9 c'
  have hsum2 : ¬ (9223372036854775807 < t.size + (bs [c']).size) := by rw [bs_size]; simp; omega
  refine Inv.region_inv (n := 48) (by kernel_rfl) [some 26, some 27, some 28, some 29, some 30, some 31, some 32, some 33, some 34, some 35, some 36, some 37, some 38, some 39, some 40, some 41, some 42, some 43, some 44, some 45, some 46, some 47, some 48, some 49, some 50, some 51, some 52, some 53, some 54, some 55, some 56, some 57, some 58, some 59, some 60, some 61, some 62, some 63, some 64, some 65, some 66, some 67, some 68, some 69, some 70, some 71, some 72, some 8] rfl (by kernel_rfl) (by kernel_rfl) rfl (by rfl)
    (fun d v w => match d with
      | 0 => v = .bool true
      | 1 => v = .bool true
      | 2 => v = .string t
      | 3 => v = .int .i64 ((A : Nat))
      | 4 => v = .string (t.extract 0 A)
      | 5 => v = .string t
      | 6 => v = .int .i64 ((A : Nat))
      | 7 => v = .int .i64 ((B : Nat))
      | 8 => v = .string (t.extract A B)
      | 9 => v = .string t
      | 10 => v = .int .i64 ((B : Nat))
      | 11 => v = .string (t.extract B t.size)
      | 12 => LitG 3 [.string (t.extract 0 A), .string (t.extract A B), .string (t.extract B t.size)] 9 v w
      | 13 => v = .int .u32 (k : Int)
      | 14 => v = (.int .u32 (k : Int))
      | 15 => v = .bool true
      | 16 => v = .bool true
      | 17 => v = .bool true
      | 18 => v = .string t
      | 19 => v = (.int .u8 (c'.toNat : Int))
      | 20 => LitG 1 [.int .u8 (c'.toNat : Int)] 5 v w
      | 21 => v = (.string (bs [c']))
      | 22 => LitG 2 [.string t, .string (bs [c'])] 9 v w
      | 23 => v = .int .u32 (k2 : Int)
      | 24 => v = .string t
      | 25 => v = (.int .u8 (c'.toNat : Int))
      | 26 => LitG 1 [.int .u8 (c'.toNat : Int)] 5 v w
      | 27 => v = (.string (bs [c']))
      | 28 => v = (.string (t ++ bs [c']))
      | 29 => LitG 1 [.string (t ++ bs [c'])] 9 v w
      | 30 => v = .int .u32 (k2 : Int)
      | 31 => v = .bool true
      | 32 => v = .bool true
      | 33 => v = .bool true
      | 34 => v = .string t
      | 35 => v = .int .i64 ((A : Nat))
      | 36 => v = .string (t.extract 0 A)
      | 37 => v = .string t
      | 38 => v = .int .i64 ((A : Nat))
      | 39 => v = .string (t.extract A t.size)
      | 40 => LitG 2 [.string (t.extract 0 A), .string (t.extract A t.size)] 9 v w
      | 41 => v = .string fr
      | 42 => v = .string t
      | 43 => LitG 1 [.string t] 9 v w
      | 44 => v = .string fr
      | 45 => v = .bool true
      | 46 => v = .bool true
      | 47 => v = .bool true
      | _ => True) (fun w w' => Below w.heap.size w w') (fun _ w => Below W.heap.size W w) ?_ ?_ ?_ ?_
  · intro d v w w' k h
    match d, h with
    | 0, h => exact h
    | 1, h => exact h
    | 2, h => exact h
    | 3, h => exact h
    | 4, h => exact h
    | 5, h => exact h
    | 6, h => exact h
    | 7, h => exact h
    | 8, h => exact h
    | 9, h => exact h
    | 10, h => exact h
    | 11, h => exact h
    | 12, h => exact h.keep k
    | 13, h => exact h
    | 14, h => exact h
    | 15, h => exact h
    | 16, h => exact h
    | 17, h => exact h
    | 18, h => exact h
    | 19, h => exact h
    | 20, h => exact h.keep k
    | 21, h => exact h
    | 22, h => exact h.keep k
    | 23, h => exact h
    | 24, h => exact h
    | 25, h => exact h
    | 26, h => exact h.keep k
    | 27, h => exact h
    | 28, h => exact h
    | 29, h => exact h.keep k
    | 30, h => exact h
    | 31, h => exact h
    | 32, h => exact h
    | 33, h => exact h
    | 34, h => exact h
    | 35, h => exact h
    | 36, h => exact h
    | 37, h => exact h
    | 38, h => exact h
    | 39, h => exact h
    | 40, h => exact h.keep k
    | 41, h => exact h
    | 42, h => exact h
    | 43, h => exact h.keep k
    | 44, h => exact h
    | 45, h => exact h
    | 46, h => exact h
    | 47, h => exact h
    | d + 48, h => exact trivial
  · exact below_drew hB1 1
  · intro i o listed a vs w ho hls hl hdep hcl hout hev hT hG
    have hi : i < 48 := (Array.getElem?_eq_some_iff.1 ho).1
    have i48 : i = 0 ∨ i = 1 ∨ i = 2 ∨ i = 3 ∨ i = 4 ∨ i = 5 ∨ i = 6 ∨ i = 7 ∨ i = 8 ∨ i = 9 ∨ i = 10 ∨ i = 11 ∨ i = 12 ∨ i = 13 ∨ i = 14 ∨ i = 15 ∨ i = 16 ∨ i = 17 ∨ i = 18 ∨ i = 19 ∨ i = 20 ∨ i = 21 ∨ i = 22 ∨ i = 23 ∨ i = 24 ∨ i = 25 ∨ i = 26 ∨ i = 27 ∨ i = 28 ∨ i = 29 ∨ i = 30 ∨ i = 31 ∨ i = 32 ∨ i = 33 ∨ i = 34 ∨ i = 35 ∨ i = 36 ∨ i = 37 ∨ i = 38 ∨ i = 39 ∨ i = 40 ∨ i = 41 ∨ i = 42 ∨ i = 43 ∨ i = 44 ∨ i = 45 ∨ i = 46 ∨ i = 47 := by omega
    rcases i48 with rfl | rfl | rfl | rfl | rfl | rfl | rfl | rfl | rfl | rfl | rfl | rfl | rfl | rfl | rfl | rfl | rfl | rfl | rfl | rfl | rfl | rfl | rfl | rfl | rfl | rfl | rfl | rfl | rfl | rfl | rfl | rfl | rfl | rfl | rfl | rfl | rfl | rfl | rfl | rfl | rfl | rfl | rfl | rfl | rfl | rfl | rfl | rfl
    · simp only [List.getElem?_toArray, List.getElem?_cons_zero, List.getElem?_cons_succ, Option.some.injEq] at ho
      subst ho
      refine ⟨rfl, fun K hK => ?_⟩
      unfold Oper.wp
      simp [execOp, go_sem, Oper.upon]
      refine (awake_any _).mono ?_; rintro e w' ⟨rfl, hBw⟩
      exact hK _ _ hBw (hG.trans (hBw.mono hG.size)) rfl
    · simp only [List.getElem?_toArray, List.getElem?_cons_zero, List.getElem?_cons_succ, Option.some.injEq] at ho
      subst ho
      refine ⟨rfl, fun K hK => ?_⟩
      have dp0 := hdep ⟨0, .data⟩ (by simp) rfl
      have ep0 := hev 0 26 rfl dp0
      rw [hT 0 dp0] at ep0
      simp only [Act.eval, Array.getD_eq_getD_getElem?] at ep0
      unfold Oper.wp
      simp [execOp, ep0, go_sem, Oper.upon]
      exact hK _ _ (Below.refl _ _) hG rfl
    · simp only [List.getElem?_toArray, List.getElem?_cons_zero, List.getElem?_cons_succ, Option.some.injEq] at ho
      subst ho
      have gp := hdep ⟨1, .guard⟩ (by simp) rfl
      have gq := hev 1 27 rfl gp
      rw [hT 1 gp] at gq
      refine ⟨by (simp only [Act.eval, Array.getD_eq_getD_getElem?] at gq; simp [Region.wanted, yielded, getD_bool gq]), fun K hK => ?_⟩
      have q := (hout 0 (by decide)).trans (rfl : _ = (.string t : Value))
      simp only [Act.eval, Array.getD_eq_getD_getElem?] at q
      unfold Oper.wp
      simp [execOp, q, go_sem, Oper.upon]
      exact hK _ _ (Below.refl _ _) hG rfl
    · simp only [List.getElem?_toArray, List.getElem?_cons_zero, List.getElem?_cons_succ, Option.some.injEq] at ho
      subst ho
      have gp := hdep ⟨1, .guard⟩ (by simp) rfl
      have gq := hev 1 27 rfl gp
      rw [hT 1 gp] at gq
      refine ⟨by (simp only [Act.eval, Array.getD_eq_getD_getElem?] at gq; simp [Region.wanted, yielded, getD_bool gq]), fun K hK => ?_⟩
      have q := (hout 1 (by decide)).trans (rfl : _ = (.int .i64 ((A : Nat)) : Value))
      simp only [Act.eval, Array.getD_eq_getD_getElem?] at q
      unfold Oper.wp
      simp [execOp, q, go_sem, Oper.upon]
      exact hK _ _ (Below.refl _ _) hG rfl
    · simp only [List.getElem?_toArray, List.getElem?_cons_zero, List.getElem?_cons_succ, Option.some.injEq] at ho
      subst ho
      have gp := hdep ⟨1, .guard⟩ (by simp) rfl
      have gq := hev 1 27 rfl gp
      rw [hT 1 gp] at gq
      refine ⟨by (simp only [Act.eval, Array.getD_eq_getD_getElem?] at gq; simp [Region.wanted, yielded, getD_bool gq]), fun K hK => ?_⟩
      have dp2 := hdep ⟨2, .data⟩ (by simp) rfl
      have ep2 := hev 2 28 rfl dp2
      rw [hT 2 dp2] at ep2
      have dp3 := hdep ⟨3, .data⟩ (by simp) rfl
      have ep3 := hev 3 29 rfl dp3
      rw [hT 3 dp3] at ep3
      simp only [Act.eval, Array.getD_eq_getD_getElem?] at ep2 ep3
      unfold Oper.wp
      simp [execOp, ep2, ep3, hAt, hAB, hBt, go_sem, Oper.upon]
      exact hK _ _ (Below.refl _ _) hG rfl
    · simp only [List.getElem?_toArray, List.getElem?_cons_zero, List.getElem?_cons_succ, Option.some.injEq] at ho
      subst ho
      have gp := hdep ⟨1, .guard⟩ (by simp) rfl
      have gq := hev 1 27 rfl gp
      rw [hT 1 gp] at gq
      refine ⟨by (simp only [Act.eval, Array.getD_eq_getD_getElem?] at gq; simp [Region.wanted, yielded, getD_bool gq]), fun K hK => ?_⟩
      have q := (hout 0 (by decide)).trans (rfl : _ = (.string t : Value))
      simp only [Act.eval, Array.getD_eq_getD_getElem?] at q
      unfold Oper.wp
      simp [execOp, q, go_sem, Oper.upon]
      exact hK _ _ (Below.refl _ _) hG rfl
    · simp only [List.getElem?_toArray, List.getElem?_cons_zero, List.getElem?_cons_succ, Option.some.injEq] at ho
      subst ho
      have gp := hdep ⟨1, .guard⟩ (by simp) rfl
      have gq := hev 1 27 rfl gp
      rw [hT 1 gp] at gq
      refine ⟨by (simp only [Act.eval, Array.getD_eq_getD_getElem?] at gq; simp [Region.wanted, yielded, getD_bool gq]), fun K hK => ?_⟩
      have q := (hout 1 (by decide)).trans (rfl : _ = (.int .i64 ((A : Nat)) : Value))
      simp only [Act.eval, Array.getD_eq_getD_getElem?] at q
      unfold Oper.wp
      simp [execOp, q, go_sem, Oper.upon]
      exact hK _ _ (Below.refl _ _) hG rfl
    · simp only [List.getElem?_toArray, List.getElem?_cons_zero, List.getElem?_cons_succ, Option.some.injEq] at ho
      subst ho
      have gp := hdep ⟨1, .guard⟩ (by simp) rfl
      have gq := hev 1 27 rfl gp
      rw [hT 1 gp] at gq
      refine ⟨by (simp only [Act.eval, Array.getD_eq_getD_getElem?] at gq; simp [Region.wanted, yielded, getD_bool gq]), fun K hK => ?_⟩
      have q := (hout 2 (by decide)).trans (rfl : _ = (.int .i64 ((B : Nat)) : Value))
      simp only [Act.eval, Array.getD_eq_getD_getElem?] at q
      unfold Oper.wp
      simp [execOp, q, go_sem, Oper.upon]
      exact hK _ _ (Below.refl _ _) hG rfl
    · simp only [List.getElem?_toArray, List.getElem?_cons_zero, List.getElem?_cons_succ, Option.some.injEq] at ho
      subst ho
      have gp := hdep ⟨1, .guard⟩ (by simp) rfl
      have gq := hev 1 27 rfl gp
      rw [hT 1 gp] at gq
      refine ⟨by (simp only [Act.eval, Array.getD_eq_getD_getElem?] at gq; simp [Region.wanted, yielded, getD_bool gq]), fun K hK => ?_⟩
      have dp5 := hdep ⟨5, .data⟩ (by simp) rfl
      have ep5 := hev 5 31 rfl dp5
      rw [hT 5 dp5] at ep5
      have dp6 := hdep ⟨6, .data⟩ (by simp) rfl
      have ep6 := hev 6 32 rfl dp6
      rw [hT 6 dp6] at ep6
      have dp7 := hdep ⟨7, .data⟩ (by simp) rfl
      have ep7 := hev 7 33 rfl dp7
      rw [hT 7 dp7] at ep7
      simp only [Act.eval, Array.getD_eq_getD_getElem?] at ep5 ep6 ep7
      unfold Oper.wp
      simp [execOp, ep5, ep6, ep7, hAt, hAB, hBt, go_sem, Oper.upon]
      exact hK _ _ (Below.refl _ _) hG rfl
    · simp only [List.getElem?_toArray, List.getElem?_cons_zero, List.getElem?_cons_succ, Option.some.injEq] at ho
      subst ho
      have gp := hdep ⟨1, .guard⟩ (by simp) rfl
      have gq := hev 1 27 rfl gp
      rw [hT 1 gp] at gq
      refine ⟨by (simp only [Act.eval, Array.getD_eq_getD_getElem?] at gq; simp [Region.wanted, yielded, getD_bool gq]), fun K hK => ?_⟩
      have q := (hout 0 (by decide)).trans (rfl : _ = (.string t : Value))
      simp only [Act.eval, Array.getD_eq_getD_getElem?] at q
      unfold Oper.wp
      simp [execOp, q, go_sem, Oper.upon]
      exact hK _ _ (Below.refl _ _) hG rfl
    · simp only [List.getElem?_toArray, List.getElem?_cons_zero, List.getElem?_cons_succ, Option.some.injEq] at ho
      subst ho
      have gp := hdep ⟨1, .guard⟩ (by simp) rfl
      have gq := hev 1 27 rfl gp
      rw [hT 1 gp] at gq
      refine ⟨by (simp only [Act.eval, Array.getD_eq_getD_getElem?] at gq; simp [Region.wanted, yielded, getD_bool gq]), fun K hK => ?_⟩
      have q := (hout 2 (by decide)).trans (rfl : _ = (.int .i64 ((B : Nat)) : Value))
      simp only [Act.eval, Array.getD_eq_getD_getElem?] at q
      unfold Oper.wp
      simp [execOp, q, go_sem, Oper.upon]
      exact hK _ _ (Below.refl _ _) hG rfl
    · simp only [List.getElem?_toArray, List.getElem?_cons_zero, List.getElem?_cons_succ, Option.some.injEq] at ho
      subst ho
      have gp := hdep ⟨1, .guard⟩ (by simp) rfl
      have gq := hev 1 27 rfl gp
      rw [hT 1 gp] at gq
      refine ⟨by (simp only [Act.eval, Array.getD_eq_getD_getElem?] at gq; simp [Region.wanted, yielded, getD_bool gq]), fun K hK => ?_⟩
      have dp9 := hdep ⟨9, .data⟩ (by simp) rfl
      have ep9 := hev 9 35 rfl dp9
      rw [hT 9 dp9] at ep9
      have dp10 := hdep ⟨10, .data⟩ (by simp) rfl
      have ep10 := hev 10 36 rfl dp10
      rw [hT 10 dp10] at ep10
      simp only [Act.eval, Array.getD_eq_getD_getElem?] at ep9 ep10
      unfold Oper.wp
      simp [execOp, ep9, ep10, hAt, hAB, hBt, go_sem, Oper.upon]
      exact hK _ _ (Below.refl _ _) hG rfl
    · simp only [List.getElem?_toArray, List.getElem?_cons_zero, List.getElem?_cons_succ, Option.some.injEq] at ho
      subst ho
      have gp := hdep ⟨1, .guard⟩ (by simp) rfl
      have gq := hev 1 27 rfl gp
      rw [hT 1 gp] at gq
      refine ⟨by (simp only [Act.eval, Array.getD_eq_getD_getElem?] at gq; simp [Region.wanted, yielded, getD_bool gq]), fun K hK => ?_⟩
      have dp4 := hdep ⟨4, .data⟩ (by simp) rfl
      have ep4 := hev 4 30 rfl dp4
      rw [hT 4 dp4] at ep4
      have dp8 := hdep ⟨8, .data⟩ (by simp) rfl
      have ep8 := hev 8 34 rfl dp8
      rw [hT 8 dp8] at ep8
      have dp11 := hdep ⟨11, .data⟩ (by simp) rfl
      have ep11 := hev 11 37 rfl dp11
      rw [hT 11 dp11] at ep11
      simp only [Act.eval, Array.getD_eq_getD_getElem?] at ep4 ep8 ep11
      unfold Oper.wp
      simp [execOp, ep4, ep8, ep11, go_sem, Oper.upon]
      exact hK _ _ ((Below.refl _ _).alloc (Nat.le_refl _) _) (hG.alloc hG.size _) ⟨w.heap.size, rfl, Blk.new _ _ _⟩
    · simp only [List.getElem?_toArray, List.getElem?_cons_zero, List.getElem?_cons_succ, Option.some.injEq] at ho
      subst ho
      have gp := hdep ⟨1, .guard⟩ (by simp) rfl
      have gq := hev 1 27 rfl gp
      rw [hT 1 gp] at gq
      refine ⟨by (simp only [Act.eval, Array.getD_eq_getD_getElem?] at gq; simp [Region.wanted, yielded, getD_bool gq]), fun K hK => ?_⟩
      have dp12 := hdep ⟨12, .data⟩ (by simp) rfl
      have ep12 := hev 12 38 rfl dp12
      obtain ⟨g, eg, hbg⟩ := hT 12 dp12
      rw [eg] at ep12
      simp only [Act.eval, Array.getD_eq_getD_getElem?] at ep12
      unfold Oper.wp
      simp [execOp, ep12, go_sem, Oper.upon]
      refine (H3.out _ w (Sl.lit hbg (by decide) rfl)).mono ?_; rintro e w' ⟨rfl, rfl⟩
      exact hK _ _ (Below.refl _ _) hG rfl
    · simp only [List.getElem?_toArray, List.getElem?_cons_zero, List.getElem?_cons_succ, Option.some.injEq] at ho
      subst ho
      have gp := hdep ⟨1, .guard⟩ (by simp) rfl
      have gq := hev 1 27 rfl gp
      rw [hT 1 gp] at gq
      refine ⟨by (simp only [Act.eval, Array.getD_eq_getD_getElem?] at gq; simp [Region.wanted, yielded, getD_bool gq]), fun K hK => ?_⟩
      have q := (hout 9 (by decide)).trans (rfl : _ = ((.int .u32 (k : Int)) : Value))
      simp only [Act.eval, Array.getD_eq_getD_getElem?] at q
      unfold Oper.wp
      simp [execOp, q, go_sem, Oper.upon]
      exact hK _ _ (Below.refl _ _) hG rfl
    · simp only [List.getElem?_toArray, List.getElem?_cons_zero, List.getElem?_cons_succ, Option.some.injEq] at ho
      subst ho
      have gp := hdep ⟨1, .guard⟩ (by simp) rfl
      have gq := hev 1 27 rfl gp
      rw [hT 1 gp] at gq
      refine ⟨by (simp only [Act.eval, Array.getD_eq_getD_getElem?] at gq; simp [Region.wanted, yielded, getD_bool gq]), fun K hK => ?_⟩
      have dp13 := hdep ⟨13, .data⟩ (by simp) rfl
      have ep13 := hev 13 39 rfl dp13
      rw [hT 13 dp13] at ep13
      have dp14 := hdep ⟨14, .data⟩ (by simp) rfl
      have ep14 := hev 14 40 rfl dp14
      rw [hT 14 dp14] at ep14
      simp only [Act.eval, Array.getD_eq_getD_getElem?] at ep13 ep14
      unfold Oper.wp
      simp [execOp, ep13, ep14, go_sem, Oper.upon]
      exact hK _ _ (Below.refl _ _) hG rfl
    · simp only [List.getElem?_toArray, List.getElem?_cons_zero, List.getElem?_cons_succ, Option.some.injEq] at ho
      subst ho
      refine ⟨rfl, fun K hK => ?_⟩
      have dp1 := hdep ⟨1, .data⟩ (by simp) rfl
      have ep1 := hev 1 27 rfl dp1
      rw [hT 1 dp1] at ep1
      have dp15 := hdep ⟨15, .data⟩ (by simp) rfl
      have ep15 := hev 15 41 rfl dp15
      rw [hT 15 dp15] at ep15
      simp only [Act.eval, Array.getD_eq_getD_getElem?] at ep1 ep15
      unfold Oper.wp
      simp [execOp, ep1, ep15, go_sem, Oper.upon]
      exact hK _ _ (Below.refl _ _) hG rfl
    · simp only [List.getElem?_toArray, List.getElem?_cons_zero, List.getElem?_cons_succ, Option.some.injEq] at ho
      subst ho
      refine ⟨rfl, fun K hK => ?_⟩
      have dp16 := hdep ⟨16, .data⟩ (by simp) rfl
      have ep16 := hev 16 42 rfl dp16
      rw [hT 16 dp16] at ep16
      simp only [Act.eval, Array.getD_eq_getD_getElem?] at ep16
      unfold Oper.wp
      simp [execOp, ep16, go_sem, Oper.upon]
      exact hK _ _ (Below.refl _ _) hG rfl
    · simp only [List.getElem?_toArray, List.getElem?_cons_zero, List.getElem?_cons_succ, Option.some.injEq] at ho
      subst ho
      have gp := hdep ⟨17, .guard⟩ (by simp) rfl
      have gq := hev 17 43 rfl gp
      rw [hT 17 gp] at gq
      refine ⟨by (simp only [Act.eval, Array.getD_eq_getD_getElem?] at gq; simp [Region.wanted, yielded, getD_bool gq]), fun K hK => ?_⟩
      have q := (hout 0 (by decide)).trans (rfl : _ = (.string t : Value))
      simp only [Act.eval, Array.getD_eq_getD_getElem?] at q
      unfold Oper.wp
      simp [execOp, q, go_sem, Oper.upon]
      exact hK _ _ (Below.refl _ _) hG rfl
    · simp only [List.getElem?_toArray, List.getElem?_cons_zero, List.getElem?_cons_succ, Option.some.injEq] at ho
      subst ho
      have gp := hdep ⟨17, .guard⟩ (by simp) rfl
      have gq := hev 17 43 rfl gp
      rw [hT 17 gp] at gq
      refine ⟨by (simp only [Act.eval, Array.getD_eq_getD_getElem?] at gq; simp [Region.wanted, yielded, getD_bool gq]), fun K hK => ?_⟩
      have q := (hout 3 (by decide)).trans (rfl : _ = ((.int .u8 (c'.toNat : Int)) : Value))
      simp only [Act.eval, Array.getD_eq_getD_getElem?] at q
      unfold Oper.wp
      simp [execOp, q, go_sem, Oper.upon]
      exact hK _ _ (Below.refl _ _) hG rfl
    · simp only [List.getElem?_toArray, List.getElem?_cons_zero, List.getElem?_cons_succ, Option.some.injEq] at ho
      subst ho
      have gp := hdep ⟨17, .guard⟩ (by simp) rfl
      have gq := hev 17 43 rfl gp
      rw [hT 17 gp] at gq
      refine ⟨by (simp only [Act.eval, Array.getD_eq_getD_getElem?] at gq; simp [Region.wanted, yielded, getD_bool gq]), fun K hK => ?_⟩
      have dp19 := hdep ⟨19, .data⟩ (by simp) rfl
      have ep19 := hev 19 45 rfl dp19
      rw [hT 19 dp19] at ep19
      simp only [Act.eval, Array.getD_eq_getD_getElem?] at ep19
      unfold Oper.wp
      simp [execOp, ep19, go_sem, Oper.upon]
      exact hK _ _ ((Below.refl _ _).alloc (Nat.le_refl _) _) (hG.alloc hG.size _) ⟨w.heap.size, rfl, Blk.new _ _ _⟩
    · simp only [List.getElem?_toArray, List.getElem?_cons_zero, List.getElem?_cons_succ, Option.some.injEq] at ho
      subst ho
      have gp := hdep ⟨17, .guard⟩ (by simp) rfl
      have gq := hev 17 43 rfl gp
      rw [hT 17 gp] at gq
      refine ⟨by (simp only [Act.eval, Array.getD_eq_getD_getElem?] at gq; simp [Region.wanted, yielded, getD_bool gq]), fun K hK => ?_⟩
      have dp20 := hdep ⟨20, .data⟩ (by simp) rfl
      have ep20 := hev 20 46 rfl dp20
      obtain ⟨g, eg, hbg⟩ := hT 20 dp20
      rw [eg] at ep20
      have hcv := cv w g (by rw [hbg.cell]; rfl)
      simp only [Act.eval, Array.getD_eq_getD_getElem?] at ep20
      unfold Oper.wp
      simp [execOp, ep20, hcv, go_sem, Oper.upon]
      exact hK _ _ (Below.refl _ _) hG rfl
    · simp only [List.getElem?_toArray, List.getElem?_cons_zero, List.getElem?_cons_succ, Option.some.injEq] at ho
      subst ho
      have gp := hdep ⟨17, .guard⟩ (by simp) rfl
      have gq := hev 17 43 rfl gp
      rw [hT 17 gp] at gq
      refine ⟨by (simp only [Act.eval, Array.getD_eq_getD_getElem?] at gq; simp [Region.wanted, yielded, getD_bool gq]), fun K hK => ?_⟩
      have dp18 := hdep ⟨18, .data⟩ (by simp) rfl
      have ep18 := hev 18 44 rfl dp18
      rw [hT 18 dp18] at ep18
      have dp21 := hdep ⟨21, .data⟩ (by simp) rfl
      have ep21 := hev 21 47 rfl dp21
      rw [hT 21 dp21] at ep21
      simp only [Act.eval, Array.getD_eq_getD_getElem?] at ep18 ep21
      unfold Oper.wp
      simp [execOp, ep18, ep21, go_sem, Oper.upon]
      exact hK _ _ ((Below.refl _ _).alloc (Nat.le_refl _) _) (hG.alloc hG.size _) ⟨w.heap.size, rfl, Blk.new _ _ _⟩
    · simp only [List.getElem?_toArray, List.getElem?_cons_zero, List.getElem?_cons_succ, Option.some.injEq] at ho
      subst ho
      have gp := hdep ⟨17, .guard⟩ (by simp) rfl
      have gq := hev 17 43 rfl gp
      rw [hT 17 gp] at gq
      refine ⟨by (simp only [Act.eval, Array.getD_eq_getD_getElem?] at gq; simp [Region.wanted, yielded, getD_bool gq]), fun K hK => ?_⟩
      have dp22 := hdep ⟨22, .data⟩ (by simp) rfl
      have ep22 := hev 22 48 rfl dp22
      obtain ⟨g, eg, hbg⟩ := hT 22 dp22
      rw [eg] at ep22
      simp only [Act.eval, Array.getD_eq_getD_getElem?] at ep22
      unfold Oper.wp
      simp [execOp, ep22, go_sem, Oper.upon]
      refine (H2.out _ w (Sl.lit hbg (by decide) rfl)).mono ?_; rintro e w' ⟨rfl, rfl⟩
      exact hK _ _ (Below.refl _ _) hG rfl
    · simp only [List.getElem?_toArray, List.getElem?_cons_zero, List.getElem?_cons_succ, Option.some.injEq] at ho
      subst ho
      have gp := hdep ⟨17, .guard⟩ (by simp) rfl
      have gq := hev 17 43 rfl gp
      rw [hT 17 gp] at gq
      refine ⟨by (simp only [Act.eval, Array.getD_eq_getD_getElem?] at gq; simp [Region.wanted, yielded, getD_bool gq]), fun K hK => ?_⟩
      have q := (hout 0 (by decide)).trans (rfl : _ = (.string t : Value))
      simp only [Act.eval, Array.getD_eq_getD_getElem?] at q
      unfold Oper.wp
      simp [execOp, q, go_sem, Oper.upon]
      exact hK _ _ (Below.refl _ _) hG rfl
    · simp only [List.getElem?_toArray, List.getElem?_cons_zero, List.getElem?_cons_succ, Option.some.injEq] at ho
      subst ho
      have gp := hdep ⟨17, .guard⟩ (by simp) rfl
      have gq := hev 17 43 rfl gp
      rw [hT 17 gp] at gq
      refine ⟨by (simp only [Act.eval, Array.getD_eq_getD_getElem?] at gq; simp [Region.wanted, yielded, getD_bool gq]), fun K hK => ?_⟩
      have q := (hout 3 (by decide)).trans (rfl : _ = ((.int .u8 (c'.toNat : Int)) : Value))
      simp only [Act.eval, Array.getD_eq_getD_getElem?] at q
      unfold Oper.wp
      simp [execOp, q, go_sem, Oper.upon]
      exact hK _ _ (Below.refl _ _) hG rfl
    · simp only [List.getElem?_toArray, List.getElem?_cons_zero, List.getElem?_cons_succ, Option.some.injEq] at ho
      subst ho
      have gp := hdep ⟨17, .guard⟩ (by simp) rfl
      have gq := hev 17 43 rfl gp
      rw [hT 17 gp] at gq
      refine ⟨by (simp only [Act.eval, Array.getD_eq_getD_getElem?] at gq; simp [Region.wanted, yielded, getD_bool gq]), fun K hK => ?_⟩
      have dp25 := hdep ⟨25, .data⟩ (by simp) rfl
      have ep25 := hev 25 51 rfl dp25
      rw [hT 25 dp25] at ep25
      simp only [Act.eval, Array.getD_eq_getD_getElem?] at ep25
      unfold Oper.wp
      simp [execOp, ep25, go_sem, Oper.upon]
      exact hK _ _ ((Below.refl _ _).alloc (Nat.le_refl _) _) (hG.alloc hG.size _) ⟨w.heap.size, rfl, Blk.new _ _ _⟩
    · simp only [List.getElem?_toArray, List.getElem?_cons_zero, List.getElem?_cons_succ, Option.some.injEq] at ho
      subst ho
      have gp := hdep ⟨17, .guard⟩ (by simp) rfl
      have gq := hev 17 43 rfl gp
      rw [hT 17 gp] at gq
      refine ⟨by (simp only [Act.eval, Array.getD_eq_getD_getElem?] at gq; simp [Region.wanted, yielded, getD_bool gq]), fun K hK => ?_⟩
      have dp26 := hdep ⟨26, .data⟩ (by simp) rfl
      have ep26 := hev 26 52 rfl dp26
      obtain ⟨g, eg, hbg⟩ := hT 26 dp26
      rw [eg] at ep26
      have hcv := cv w g (by rw [hbg.cell]; rfl)
      simp only [Act.eval, Array.getD_eq_getD_getElem?] at ep26
      unfold Oper.wp
      simp [execOp, ep26, hcv, go_sem, Oper.upon]
      exact hK _ _ (Below.refl _ _) hG rfl
    · simp only [List.getElem?_toArray, List.getElem?_cons_zero, List.getElem?_cons_succ, Option.some.injEq] at ho
      subst ho
      have gp := hdep ⟨17, .guard⟩ (by simp) rfl
      have gq := hev 17 43 rfl gp
      rw [hT 17 gp] at gq
      refine ⟨by (simp only [Act.eval, Array.getD_eq_getD_getElem?] at gq; simp [Region.wanted, yielded, getD_bool gq]), fun K hK => ?_⟩
      have dp24 := hdep ⟨24, .data⟩ (by simp) rfl
      have ep24 := hev 24 50 rfl dp24
      rw [hT 24 dp24] at ep24
      have dp27 := hdep ⟨27, .data⟩ (by simp) rfl
      have ep27 := hev 27 53 rfl dp27
      rw [hT 27 dp27] at ep27
      simp only [Act.eval, Array.getD_eq_getD_getElem?] at ep24 ep27
      unfold Oper.wp
      simp [execOp, ep24, ep27, hsum2, go_sem, Oper.upon]
      exact hK _ _ (Below.refl _ _) hG rfl
    · simp only [List.getElem?_toArray, List.getElem?_cons_zero, List.getElem?_cons_succ, Option.some.injEq] at ho
      subst ho
      have gp := hdep ⟨17, .guard⟩ (by simp) rfl
      have gq := hev 17 43 rfl gp
      rw [hT 17 gp] at gq
      refine ⟨by (simp only [Act.eval, Array.getD_eq_getD_getElem?] at gq; simp [Region.wanted, yielded, getD_bool gq]), fun K hK => ?_⟩
      have dp28 := hdep ⟨28, .data⟩ (by simp) rfl
      have ep28 := hev 28 54 rfl dp28
      rw [hT 28 dp28] at ep28
      simp only [Act.eval, Array.getD_eq_getD_getElem?] at ep28
      unfold Oper.wp
      simp [execOp, ep28, go_sem, Oper.upon]
      exact hK _ _ ((Below.refl _ _).alloc (Nat.le_refl _) _) (hG.alloc hG.size _) ⟨w.heap.size, rfl, Blk.new _ _ _⟩
    · simp only [List.getElem?_toArray, List.getElem?_cons_zero, List.getElem?_cons_succ, Option.some.injEq] at ho
      subst ho
      have gp := hdep ⟨17, .guard⟩ (by simp) rfl
      have gq := hev 17 43 rfl gp
      rw [hT 17 gp] at gq
      refine ⟨by (simp only [Act.eval, Array.getD_eq_getD_getElem?] at gq; simp [Region.wanted, yielded, getD_bool gq]), fun K hK => ?_⟩
      have dp29 := hdep ⟨29, .data⟩ (by simp) rfl
      have ep29 := hev 29 55 rfl dp29
      obtain ⟨g, eg, hbg⟩ := hT 29 dp29
      rw [eg] at ep29
      simp only [Act.eval, Array.getD_eq_getD_getElem?] at ep29
      unfold Oper.wp
      simp [execOp, ep29, go_sem, Oper.upon]
      refine (H1.out _ w (Sl.lit hbg (by decide) rfl)).mono ?_; rintro e w' ⟨rfl, rfl⟩
      exact hK _ _ (Below.refl _ _) hG rfl
    · simp only [List.getElem?_toArray, List.getElem?_cons_zero, List.getElem?_cons_succ, Option.some.injEq] at ho
      subst ho
      have gp := hdep ⟨17, .guard⟩ (by simp) rfl
      have gq := hev 17 43 rfl gp
      rw [hT 17 gp] at gq
      refine ⟨by (simp only [Act.eval, Array.getD_eq_getD_getElem?] at gq; simp [Region.wanted, yielded, getD_bool gq]), fun K hK => ?_⟩
      have dp23 := hdep ⟨23, .data⟩ (by simp) rfl
      have ep23 := hev 23 49 rfl dp23
      rw [hT 23 dp23] at ep23
      have dp30 := hdep ⟨30, .data⟩ (by simp) rfl
      have ep30 := hev 30 56 rfl dp30
      rw [hT 30 dp30] at ep30
      simp only [Act.eval, Array.getD_eq_getD_getElem?] at ep23 ep30
      unfold Oper.wp
      simp [execOp, ep23, ep30, go_sem, Oper.upon]
      exact hK _ _ (Below.refl _ _) hG rfl
    · simp only [List.getElem?_toArray, List.getElem?_cons_zero, List.getElem?_cons_succ, Option.some.injEq] at ho
      subst ho
      refine ⟨rfl, fun K hK => ?_⟩
      have dp17 := hdep ⟨17, .data⟩ (by simp) rfl
      have ep17 := hev 17 43 rfl dp17
      rw [hT 17 dp17] at ep17
      have dp31 := hdep ⟨31, .data⟩ (by simp) rfl
      have ep31 := hev 31 57 rfl dp31
      rw [hT 31 dp31] at ep31
      simp only [Act.eval, Array.getD_eq_getD_getElem?] at ep17 ep31
      unfold Oper.wp
      simp [execOp, ep17, ep31, go_sem, Oper.upon]
      exact hK _ _ (Below.refl _ _) hG rfl
    · simp only [List.getElem?_toArray, List.getElem?_cons_zero, List.getElem?_cons_succ, Option.some.injEq] at ho
      subst ho
      refine ⟨rfl, fun K hK => ?_⟩
      have dp32 := hdep ⟨32, .data⟩ (by simp) rfl
      have ep32 := hev 32 58 rfl dp32
      rw [hT 32 dp32] at ep32
      simp only [Act.eval, Array.getD_eq_getD_getElem?] at ep32
      unfold Oper.wp
      simp [execOp, ep32, go_sem, Oper.upon]
      exact hK _ _ (Below.refl _ _) hG rfl
    · simp only [List.getElem?_toArray, List.getElem?_cons_zero, List.getElem?_cons_succ, Option.some.injEq] at ho
      subst ho
      have gp := hdep ⟨33, .guard⟩ (by simp) rfl
      have gq := hev 33 59 rfl gp
      rw [hT 33 gp] at gq
      refine ⟨by (simp only [Act.eval, Array.getD_eq_getD_getElem?] at gq; simp [Region.wanted, yielded, getD_bool gq]), fun K hK => ?_⟩
      have q := (hout 0 (by decide)).trans (rfl : _ = (.string t : Value))
      simp only [Act.eval, Array.getD_eq_getD_getElem?] at q
      unfold Oper.wp
      simp [execOp, q, go_sem, Oper.upon]
      exact hK _ _ (Below.refl _ _) hG rfl
    · simp only [List.getElem?_toArray, List.getElem?_cons_zero, List.getElem?_cons_succ, Option.some.injEq] at ho
      subst ho
      have gp := hdep ⟨33, .guard⟩ (by simp) rfl
      have gq := hev 33 59 rfl gp
      rw [hT 33 gp] at gq
      refine ⟨by (simp only [Act.eval, Array.getD_eq_getD_getElem?] at gq; simp [Region.wanted, yielded, getD_bool gq]), fun K hK => ?_⟩
      have q := (hout 1 (by decide)).trans (rfl : _ = (.int .i64 ((A : Nat)) : Value))
      simp only [Act.eval, Array.getD_eq_getD_getElem?] at q
      unfold Oper.wp
      simp [execOp, q, go_sem, Oper.upon]
      exact hK _ _ (Below.refl _ _) hG rfl
    · simp only [List.getElem?_toArray, List.getElem?_cons_zero, List.getElem?_cons_succ, Option.some.injEq] at ho
      subst ho
      have gp := hdep ⟨33, .guard⟩ (by simp) rfl
      have gq := hev 33 59 rfl gp
      rw [hT 33 gp] at gq
      refine ⟨by (simp only [Act.eval, Array.getD_eq_getD_getElem?] at gq; simp [Region.wanted, yielded, getD_bool gq]), fun K hK => ?_⟩
      have dp34 := hdep ⟨34, .data⟩ (by simp) rfl
      have ep34 := hev 34 60 rfl dp34
      rw [hT 34 dp34] at ep34
      have dp35 := hdep ⟨35, .data⟩ (by simp) rfl
      have ep35 := hev 35 61 rfl dp35
      rw [hT 35 dp35] at ep35
      simp only [Act.eval, Array.getD_eq_getD_getElem?] at ep34 ep35
      unfold Oper.wp
      simp [execOp, ep34, ep35, hAt, hAB, hBt, go_sem, Oper.upon]
      exact hK _ _ (Below.refl _ _) hG rfl
    · simp only [List.getElem?_toArray, List.getElem?_cons_zero, List.getElem?_cons_succ, Option.some.injEq] at ho
      subst ho
      have gp := hdep ⟨33, .guard⟩ (by simp) rfl
      have gq := hev 33 59 rfl gp
      rw [hT 33 gp] at gq
      refine ⟨by (simp only [Act.eval, Array.getD_eq_getD_getElem?] at gq; simp [Region.wanted, yielded, getD_bool gq]), fun K hK => ?_⟩
      have q := (hout 0 (by decide)).trans (rfl : _ = (.string t : Value))
      simp only [Act.eval, Array.getD_eq_getD_getElem?] at q
      unfold Oper.wp
      simp [execOp, q, go_sem, Oper.upon]
      exact hK _ _ (Below.refl _ _) hG rfl
    · simp only [List.getElem?_toArray, List.getElem?_cons_zero, List.getElem?_cons_succ, Option.some.injEq] at ho
      subst ho
      have gp := hdep ⟨33, .guard⟩ (by simp) rfl
      have gq := hev 33 59 rfl gp
      rw [hT 33 gp] at gq
      refine ⟨by (simp only [Act.eval, Array.getD_eq_getD_getElem?] at gq; simp [Region.wanted, yielded, getD_bool gq]), fun K hK => ?_⟩
      have q := (hout 1 (by decide)).trans (rfl : _ = (.int .i64 ((A : Nat)) : Value))
      simp only [Act.eval, Array.getD_eq_getD_getElem?] at q
      unfold Oper.wp
      simp [execOp, q, go_sem, Oper.upon]
      exact hK _ _ (Below.refl _ _) hG rfl
    · simp only [List.getElem?_toArray, List.getElem?_cons_zero, List.getElem?_cons_succ, Option.some.injEq] at ho
      subst ho
      have gp := hdep ⟨33, .guard⟩ (by simp) rfl
      have gq := hev 33 59 rfl gp
      rw [hT 33 gp] at gq
      refine ⟨by (simp only [Act.eval, Array.getD_eq_getD_getElem?] at gq; simp [Region.wanted, yielded, getD_bool gq]), fun K hK => ?_⟩
      have dp37 := hdep ⟨37, .data⟩ (by simp) rfl
      have ep37 := hev 37 63 rfl dp37
      rw [hT 37 dp37] at ep37
      have dp38 := hdep ⟨38, .data⟩ (by simp) rfl
      have ep38 := hev 38 64 rfl dp38
      rw [hT 38 dp38] at ep38
      simp only [Act.eval, Array.getD_eq_getD_getElem?] at ep37 ep38
      unfold Oper.wp
      simp [execOp, ep37, ep38, hAt, hAB, hBt, go_sem, Oper.upon]
      exact hK _ _ (Below.refl _ _) hG rfl
    · simp only [List.getElem?_toArray, List.getElem?_cons_zero, List.getElem?_cons_succ, Option.some.injEq] at ho
      subst ho
      have gp := hdep ⟨33, .guard⟩ (by simp) rfl
      have gq := hev 33 59 rfl gp
      rw [hT 33 gp] at gq
      refine ⟨by (simp only [Act.eval, Array.getD_eq_getD_getElem?] at gq; simp [Region.wanted, yielded, getD_bool gq]), fun K hK => ?_⟩
      have dp36 := hdep ⟨36, .data⟩ (by simp) rfl
      have ep36 := hev 36 62 rfl dp36
      rw [hT 36 dp36] at ep36
      have dp39 := hdep ⟨39, .data⟩ (by simp) rfl
      have ep39 := hev 39 65 rfl dp39
      rw [hT 39 dp39] at ep39
      simp only [Act.eval, Array.getD_eq_getD_getElem?] at ep36 ep39
      unfold Oper.wp
      simp [execOp, ep36, ep39, go_sem, Oper.upon]
      exact hK _ _ ((Below.refl _ _).alloc (Nat.le_refl _) _) (hG.alloc hG.size _) ⟨w.heap.size, rfl, Blk.new _ _ _⟩
    · simp only [List.getElem?_toArray, List.getElem?_cons_zero, List.getElem?_cons_succ, Option.some.injEq] at ho
      subst ho
      have gp := hdep ⟨33, .guard⟩ (by simp) rfl
      have gq := hev 33 59 rfl gp
      rw [hT 33 gp] at gq
      refine ⟨by (simp only [Act.eval, Array.getD_eq_getD_getElem?] at gq; simp [Region.wanted, yielded, getD_bool gq]), fun K hK => ?_⟩
      have dp40 := hdep ⟨40, .data⟩ (by simp) rfl
      have ep40 := hev 40 66 rfl dp40
      obtain ⟨g, eg, hbg⟩ := hT 40 dp40
      rw [eg] at ep40
      simp only [Act.eval, Array.getD_eq_getD_getElem?] at ep40
      unfold Oper.wp
      simp [execOp, ep40, go_sem, Oper.upon]
      refine (F2.out _ w (Sl.lit hbg (by decide) rfl) (by intro l c h; cases h)).mono ?_; rintro e w' ⟨rfl, hBw⟩
      exact hK _ _ hBw (hG.trans (hBw.mono hG.size)) rfl
    · simp only [List.getElem?_toArray, List.getElem?_cons_zero, List.getElem?_cons_succ, Option.some.injEq] at ho
      subst ho
      have gp := hdep ⟨33, .guard⟩ (by simp) rfl
      have gq := hev 33 59 rfl gp
      rw [hT 33 gp] at gq
      refine ⟨by (simp only [Act.eval, Array.getD_eq_getD_getElem?] at gq; simp [Region.wanted, yielded, getD_bool gq]), fun K hK => ?_⟩
      have q := (hout 0 (by decide)).trans (rfl : _ = (.string t : Value))
      simp only [Act.eval, Array.getD_eq_getD_getElem?] at q
      unfold Oper.wp
      simp [execOp, q, go_sem, Oper.upon]
      exact hK _ _ (Below.refl _ _) hG rfl
    · simp only [List.getElem?_toArray, List.getElem?_cons_zero, List.getElem?_cons_succ, Option.some.injEq] at ho
      subst ho
      have gp := hdep ⟨33, .guard⟩ (by simp) rfl
      have gq := hev 33 59 rfl gp
      rw [hT 33 gp] at gq
      refine ⟨by (simp only [Act.eval, Array.getD_eq_getD_getElem?] at gq; simp [Region.wanted, yielded, getD_bool gq]), fun K hK => ?_⟩
      have dp42 := hdep ⟨42, .data⟩ (by simp) rfl
      have ep42 := hev 42 68 rfl dp42
      rw [hT 42 dp42] at ep42
      simp only [Act.eval, Array.getD_eq_getD_getElem?] at ep42
      unfold Oper.wp
      simp [execOp, ep42, go_sem, Oper.upon]
      exact hK _ _ ((Below.refl _ _).alloc (Nat.le_refl _) _) (hG.alloc hG.size _) ⟨w.heap.size, rfl, Blk.new _ _ _⟩
    · simp only [List.getElem?_toArray, List.getElem?_cons_zero, List.getElem?_cons_succ, Option.some.injEq] at ho
      subst ho
      have gp := hdep ⟨33, .guard⟩ (by simp) rfl
      have gq := hev 33 59 rfl gp
      rw [hT 33 gp] at gq
      refine ⟨by (simp only [Act.eval, Array.getD_eq_getD_getElem?] at gq; simp [Region.wanted, yielded, getD_bool gq]), fun K hK => ?_⟩
      have dp43 := hdep ⟨43, .data⟩ (by simp) rfl
      have ep43 := hev 43 69 rfl dp43
      obtain ⟨g, eg, hbg⟩ := hT 43 dp43
      rw [eg] at ep43
      simp only [Act.eval, Array.getD_eq_getD_getElem?] at ep43
      unfold Oper.wp
      simp [execOp, ep43, go_sem, Oper.upon]
      refine (F1.out _ w (Sl.lit hbg (by decide) rfl) (by intro l c h; cases h)).mono ?_; rintro e w' ⟨rfl, hBw⟩
      exact hK _ _ hBw (hG.trans (hBw.mono hG.size)) rfl
    · simp only [List.getElem?_toArray, List.getElem?_cons_zero, List.getElem?_cons_succ, Option.some.injEq] at ho
      subst ho
      have gp := hdep ⟨33, .guard⟩ (by simp) rfl
      have gq := hev 33 59 rfl gp
      rw [hT 33 gp] at gq
      refine ⟨by (simp only [Act.eval, Array.getD_eq_getD_getElem?] at gq; simp [Region.wanted, yielded, getD_bool gq]), fun K hK => ?_⟩
      have dp41 := hdep ⟨41, .data⟩ (by simp) rfl
      have ep41 := hev 41 67 rfl dp41
      rw [hT 41 dp41] at ep41
      have dp44 := hdep ⟨44, .data⟩ (by simp) rfl
      have ep44 := hev 44 70 rfl dp44
      rw [hT 44 dp44] at ep44
      simp only [Act.eval, Array.getD_eq_getD_getElem?] at ep41 ep44
      unfold Oper.wp
      simp [execOp, ep41, ep44, go_sem, Oper.upon]
      exact hK _ _ (Below.refl _ _) hG rfl
    · simp only [List.getElem?_toArray, List.getElem?_cons_zero, List.getElem?_cons_succ, Option.some.injEq] at ho
      subst ho
      refine ⟨rfl, fun K hK => ?_⟩
      have dp33 := hdep ⟨33, .data⟩ (by simp) rfl
      have ep33 := hev 33 59 rfl dp33
      rw [hT 33 dp33] at ep33
      have dp45 := hdep ⟨45, .data⟩ (by simp) rfl
      have ep45 := hev 45 71 rfl dp45
      rw [hT 45 dp45] at ep45
      simp only [Act.eval, Array.getD_eq_getD_getElem?] at ep33 ep45
      unfold Oper.wp
      simp [execOp, ep33, ep45, go_sem, Oper.upon]
      exact hK _ _ (Below.refl _ _) hG rfl
    · simp only [List.getElem?_toArray, List.getElem?_cons_zero, List.getElem?_cons_succ, Option.some.injEq] at ho
      subst ho
      refine ⟨rfl, fun K hK => ?_⟩
      have dp46 := hdep ⟨46, .data⟩ (by simp) rfl
      have ep46 := hev 46 72 rfl dp46
      rw [hT 46 dp46] at ep46
      simp only [Act.eval, Array.getD_eq_getD_getElem?] at ep46
      unfold Oper.wp
      simp [execOp, ep46, go_sem, Oper.upon]
      exact hK _ _ (Below.refl _ _) hG rfl
  · intro listed vs w hall hT hG
    have q47 := hT 47 (by omega)
    simp only at q47
    generalize hfr : Inv.frA _ _ _ _ = fr
    simp [Inv.frA, Act.put] at hfr
    rw [q47] at hfr
    subst hfr
    clear hT hall q47
    go_wp2_with fail
    go_ret
    exact ⟨rfl, hG⟩
namespace SealParts
open Go.ChangeShapes Go.WideShapes Go.ChangeAt Go.RowKit
set_option linter.unusedVariables false
theorem own : ownKnob Try.prog.godebug = none := by kernel_rfl
theorem laidOut : laidOutB Try.prog = true := by kernel_rfl
set_option maxRecDepth 100000 in
theorem lifted (os : Os) (started : os.Started) (H : Type) (enc : TypeId × Value → H) :
    ReturnsInHanded {} Try.checked os 3 .any (Rows.sealPartsSpec.pre6 enc Try.prog Try.f3 Rows.sealPartsRow.domain false) (Rows.sealPartsSpec.post enc Try.prog Try.f3 false true false false) := by
  refine returnsInHanded_of_change (C := Try.checked) own started (by kernel_rfl) Try.func3
    (ChangeSpec.witness6 (enc := enc) (C := Try.checked) false ⟨#[], #[.string ⟨#[]⟩, .int .i64 0, .int .i64 0, .int .u8 0], []⟩ 8 (by kernel_rfl) (by kernel_rfl) (by kernel_rfl) (by kernel_rfl)) ?_
  intro W base args ds gs before hval0 hW hcnd _
  have hval : ∀ (j : Nat) t v, Try.f3.params[j]? = some t → args[j]? = some v → Value.okWide Try.prog W .any base t v := hval0
  have hW' := hW
  obtain ⟨p, q, hA0, hV, rfl, hfz, hnd⟩ := hW
  have hA : DataW.TrodAll enc Try.prog W 0 (fun _ => true) true Try.f3.params.toList args.toList ds p := hA0
  rw [Try.params3] at hA hval
  obtain ⟨v0, vs0, d0, ds0, p0, q0, hargs, rfl, rfl, h0, r0⟩ := trodAll_cons hA
  obtain ⟨v1, vs1, d1, ds1, p1, q1, rfl, rfl, rfl, h1, r1⟩ := trodAll_cons r0
  obtain ⟨v2, vs2, d2, ds2, p2, q2, rfl, rfl, rfl, h2, r2⟩ := trodAll_cons r1
  obtain ⟨v3, vs3, d3, ds3, p3, q3, rfl, rfl, rfl, h3, r3⟩ := trodAll_cons r2
  obtain ⟨rfl, rfl, rfl⟩ := trodAll_nil r3
  obtain rfl : args = #[v0, v1, v2, v3] := by cases args; simp_all
  obtain ⟨rfl, rfl⟩ := trodVars_none hV
  have lt0 : ∀ x ∈ p0, x.block < W.heap.size := by obtain ⟨m, hm⟩ := h0; exact DataW.trod_lt m _ _ _ hm
  obtain ⟨x0, w0⟩ := arg_open (Kd.str) h0 (hval 0 _ v0 rfl rfl) (by kernel_rfl)
  have lt1 : ∀ x ∈ p1, x.block < W.heap.size := by obtain ⟨m, hm⟩ := h1; exact DataW.trod_lt m _ _ _ hm
  obtain ⟨x1, w1⟩ := arg_open (Kd.int .i64) h1 (hval 1 _ v1 rfl rfl) (by kernel_rfl)
  have lt2 : ∀ x ∈ p2, x.block < W.heap.size := by obtain ⟨m, hm⟩ := h2; exact DataW.trod_lt m _ _ _ hm
  obtain ⟨x2, w2⟩ := arg_open (Kd.int .i64) h2 (hval 2 _ v2 rfl rfl) (by kernel_rfl)
  have lt3 : ∀ x ∈ p3, x.block < W.heap.size := by obtain ⟨m, hm⟩ := h3; exact DataW.trod_lt m _ _ _ hm
  obtain ⟨x3, w3⟩ := arg_open (Kd.int .u8) h3 (hval 3 _ v3 rfl rfl) (by kernel_rfl)
  clear hA0 hval0
  refine (SealParts_walk W v0 v1 v2 v3 x0 w0 x1 w1 x2 w2 x3 w3).mono fun e W' ⟨he, bel⟩ => ?_
  subst he
  exact ⟨_, rfl, _, _, _, [], _, [], hW', trodAll_mk1 (shut_bool (by kernel_rfl) _), (trodAll_cons_mk (Below.trod laidOut (by kernel_rfl) (of_decide_eq_true (by kernel_rfl)) h0 bel lt0) (trodAll_cons_mk (Below.trod laidOut (by kernel_rfl) (of_decide_eq_true (by kernel_rfl)) h1 bel lt1) (trodAll_cons_mk (Below.trod laidOut (by kernel_rfl) (of_decide_eq_true (by kernel_rfl)) h2 bel lt2) (trodAll_cons_mk (Below.trod laidOut (by kernel_rfl) (of_decide_eq_true (by kernel_rfl)) h3 bel lt3) trodAll_mk0)))), rfl, bel.frame _, fun h => by cases h⟩

theorem over : Rows.sealPartsRow.holds Try.pinned (OpenSpec.ofChange Rows.sealPartsSpec) :=
  OpenClaim.holds_of_wide 3 Try.f3 rfl rfl rfl rfl rfl rfl rfl ⟨rfl, rfl, rfl, rfl, rfl⟩ rfl rfl rfl rfl rfl (by kernel_rfl) Try.func3 (by kernel_rfl)
    (of_decide_eq_true (by kernel_rfl)) (by unfold Func.isWrapper; rw [if_neg (of_decide_eq_false (by kernel_rfl))]; exact ⟨rfl, rfl⟩)
    (fun os started H enc _ => lifted os started H enc)
/-- THE STATEMENT. -/
theorem proved : Rows.SealPartsSaid := over
#print axioms proved
end SealParts
end Go.Proofs.Ytabolnflmhfdhaa
