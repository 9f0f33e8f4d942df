/- A disk of platter that has one file at most: New, Append. No condition. -/
import Derived.Test.YtloimgmifalpnaaMeter
import Derived.Test.YtloimgmifalpnaaRegionInv
import Derived.WideMake
set_option linter.unusedSimpArgs false
set_option linter.unusedVariables false
namespace Go.Proofs.Ytloimgmifalpnaa
open Go.RowKit
set_option maxHeartbeats 2000000
set_option maxRecDepth 100000

def aS : ByteArray := ⟨#[97]⟩
theorem aS_self : (aS == aS) = true := by rfl
/-- the map in block B, empty or of the one file "a" -/
def MapOf (w : World) (B : Nat) (x : Option Nat) : Prop :=
  match x with
  | none => ∃ c, w.heap[B]? = some (.map #[] c)
  | some f => ∃ c n, w.heap[B]? = some (.map #[{ key := .string aS, val := .pointer (some ⟨f, 0, none⟩), born := n }] c)
theorem key_ok (b : Bool) (w : World) : (Instr.checkKey b 10000 9 (.string aS)).run Try.prog w = .ok () w := MapKept.run_checkKey (k := .string aS) Try.underlying9 (by simp [MapKept.IsKey]) b 9999
theorem zero_ptr (w : World) : (zeroValue 63).run Try.prog w = .ok (.pointer none) w := by kernel_rfl
theorem run_look (w : World) (B : Nat) (x : Option Nat) (h : MapOf w B x) :
    (Instr.lookup 34 (.map (some B)) (.string aS) true).run Try.prog w = .ok (.tuple #[(match x with | none => .pointer none | some f => .pointer (some ⟨f, 0, none⟩)), .bool x.isSome]) w := by
  cases x with
  | none =>
    obtain ⟨c, h⟩ := h
    have hf : Instr.findNow .string (.string aS) ([] : List MapEntry) 0 = some none := rfl
    simp [Instr.lookup, run_underlying Try.underlying34, MapKept.run_getObj_map h, key_ok, MapKept.run_findKey Try.underlying9 hf, zero_ptr, Result.andThen]
  | some f =>
    obtain ⟨c, n, h⟩ := h
    have hf : Instr.findNow .string (.string aS) [{ key := .string aS, val := .pointer (some ⟨f, 0, none⟩), born := n }] 0 = some (some (0, .pointer (some ⟨f, 0, none⟩))) := by
      simp [Instr.findNow, Instr.sameNow, aS_self]
    simp [Instr.lookup, run_underlying Try.underlying34, MapKept.run_getObj_map h, key_ok, MapKept.run_findKey Try.underlying9 hf, Result.andThen]
theorem run_put (w : World) (B : Nat) (x : Option Nat) (h : MapOf w B x) (g : Nat) :
    ∃ w', (Instr.mapUpdate 34 (.map (some B)) (.string aS) (.pointer (some ⟨g, 0, none⟩))).run Try.prog w = .ok () w' ∧ MapOf w' B (some g) ∧ Only (· = B) w w' := by
  have hO : ∀ o, Only (· = B) w { w with heap := w.heap.setIfInBounds B o } := fun o => ⟨rfl, rfl, rfl, by simp, fun k hk hn => by simp [Array.getElem?_setIfInBounds, show ¬ B = k from fun e => hn e.symm]⟩
  cases x with
  | none =>
    obtain ⟨c, h⟩ := h
    have hlt := (Array.getElem?_eq_some_iff.1 h).1
    refine ⟨_, run_mapUpdate_first (P := Try.prog) (w := w) (mty := 34) (kt := 9) (et := 63) (r := B) (clock := c) (s := aS) (val := .pointer (some ⟨g, 0, none⟩)) Try.underlying34 Try.underlying9 h, ⟨c + 1, c, ?_⟩, hO _⟩
    simp [hlt]
  | some f =>
    obtain ⟨c, n, h⟩ := h
    have hlt := (Array.getElem?_eq_some_iff.1 h).1
    have hf : Instr.findNow .string (.string aS) [{ key := .string aS, val := .pointer (some ⟨f, 0, none⟩), born := n }] 0 = some (some (0, .pointer (some ⟨f, 0, none⟩))) := by
      simp [Instr.findNow, Instr.sameNow, aS_self]
    refine ⟨{ w with heap := w.heap.setIfInBounds B (.map #[{ key := .string aS, val := .pointer (some ⟨g, 0, none⟩), born := n }] c) }, ?_, ⟨c, n, by simp [hlt]⟩, hO _⟩
    simp [Instr.mapUpdate, run_underlying Try.underlying34, MapKept.run_getObj_map h, key_ok, MapKept.run_findKey Try.underlying9 hf, MapKept.run_setObj_map _ h, Result.andThen, Instr.keyThatStays, Instr.sameBits, aS_self]

theorem file_weight (x : Nat) (t u : Bool) (s : ByteArray) (ha : s.size ≤ 1000000) (wz : World) (h : Blk wz x #[.bool t, .string s, .bool u, .string ⟨#[]⟩] 62) : Calls Try.prog 22 #[.pointer (some ⟨x, 0, none⟩)] wz (Drew (.int .i64 ((s.size : Int))) wz) := by
  have c1 := h.cell 1
  have c3 := h.cell 3
  simp only [List.getElem?_toArray, List.getElem?_cons_zero, List.getElem?_cons_succ] at c1 c3
  (go_enter Try.func22, Try.ntmps22)
  go_wp2_with fail
  refine Inv.region_inv2 (n := 14) (by kernel_rfl) [some 3, some 4, some 5, some 6, some 7, some 8, some 9, some 10, some 11, some 12, some 13, some 14, some 15, some 2] rfl (by kernel_rfl) (by kernel_rfl) rfl (by rfl)
    (fun d v w => match d with
      | 0 => v = .pointer (some ⟨x, 0, none⟩)
      | 1 => v = .pointer (some ⟨x, 0, none⟩)
      | 2 => v = .pointer (some ⟨x, 0, none⟩)
      | 3 => v = .pointer (some ⟨x, 1, none⟩)
      | 4 => v = Value.string s
      | 5 => v = .int .i64 ((s.size : Int))
      | 6 => v = .pointer (some ⟨x, 0, none⟩)
      | 7 => v = .pointer (some ⟨x, 0, none⟩)
      | 8 => v = .pointer (some ⟨x, 2, none⟩)
      | 9 => v = .pointer (some ⟨x, 3, none⟩)
      | 10 => v = Value.string ⟨#[]⟩
      | 11 => v = .int .i64 (0)
      | 12 => v = .int .i64 ((s.size : Int))
      | 13 => v = .int .i64 ((s.size : Int))
      | _ => True) (fun listed w => ∃ m, w = wz.drewN m) ?_ ?_ ?_
  · exact ⟨1, rfl⟩
  · intro i o listed a vs w ho hls hl hdep hcl hout hev hT hG
    have hi : i < 14 := (Array.getElem?_eq_some_iff.1 ho).1
    have iN : i = 0 ∨ i = 1 ∨ i = 2 ∨ i = 3 ∨ i = 4 ∨ i = 5 ∨ i = 6 ∨ i = 7 ∨ i = 8 ∨ i = 9 ∨ i = 10 ∨ i = 11 ∨ i = 12 ∨ i = 13 := by omega
    rcases iN with rfl | rfl | rfl | rfl | rfl | rfl | rfl | rfl | rfl | rfl | rfl | rfl | rfl | rfl
    · simp only [List.getElem?_toArray, List.getElem?_cons_zero, List.getElem?_cons_succ, Option.some.injEq] at ho
      subst ho
      refine ⟨rfl, fun K hK => ?_⟩
      have q0 := (hout 0 (by decide)).trans (rfl : _ = (.pointer (some ⟨x, 0, none⟩) : Value))
      obtain ⟨m, rfl⟩ := hG
      have hG : ∃ q, wz.drewN m = wz.drewN q := ⟨m, rfl⟩
      try simp only [Act.eval, Array.getD_eq_getD_getElem?] at q0
      unfold Oper.wp
      simp [execOp, q0, go_sem, Oper.upon]
      exact hK _ _ hT hG rfl
    · simp only [List.getElem?_toArray, List.getElem?_cons_zero, List.getElem?_cons_succ, Option.some.injEq] at ho
      subst ho
      refine ⟨rfl, fun K hK => ?_⟩
      have dp0 := hdep ⟨0, .data⟩ (by simp) rfl
      have ep0 := hev 0 3 rfl dp0
      rw [hT 0 dp0] at ep0
      obtain ⟨m, rfl⟩ := hG
      have hG : ∃ q, wz.drewN m = wz.drewN q := ⟨m, rfl⟩
      try simp only [Act.eval, Array.getD_eq_getD_getElem?] at ep0
      unfold Oper.wp
      simp [execOp, ep0, go_sem, Oper.upon]
      exact hK _ _ hT hG rfl
    · simp only [List.getElem?_toArray, List.getElem?_cons_zero, List.getElem?_cons_succ, Option.some.injEq] at ho
      subst ho
      refine ⟨rfl, fun K hK => ?_⟩
      have dp1 := hdep ⟨1, .data⟩ (by simp) rfl
      have ep1 := hev 1 4 rfl dp1
      rw [hT 1 dp1] at ep1
      obtain ⟨m, rfl⟩ := hG
      have hG : ∃ q, wz.drewN m = wz.drewN q := ⟨m, rfl⟩
      try simp only [Act.eval, Array.getD_eq_getD_getElem?] at ep1
      unfold Oper.wp
      simp [execOp, ep1, go_sem, Oper.upon]
      exact hK _ _ hT hG rfl
    · simp only [List.getElem?_toArray, List.getElem?_cons_zero, List.getElem?_cons_succ, Option.some.injEq] at ho
      subst ho
      refine ⟨rfl, fun K hK => ?_⟩
      have dp2 := hdep ⟨2, .data⟩ (by simp) rfl
      have ep2 := hev 2 5 rfl dp2
      rw [hT 2 dp2] at ep2
      obtain ⟨m, rfl⟩ := hG
      have hG : ∃ q, wz.drewN m = wz.drewN q := ⟨m, rfl⟩
      try simp only [Act.eval, Array.getD_eq_getD_getElem?] at ep2
      unfold Oper.wp
      simp [execOp, ep2, go_sem, Oper.upon]
      exact hK _ _ hT hG rfl
    · simp only [List.getElem?_toArray, List.getElem?_cons_zero, List.getElem?_cons_succ, Option.some.injEq] at ho
      subst ho
      refine ⟨rfl, fun K hK => ?_⟩
      have dp3 := hdep ⟨3, .data⟩ (by simp) rfl
      have ep3 := hev 3 6 rfl dp3
      rw [hT 3 dp3] at ep3
      obtain ⟨m, rfl⟩ := hG
      have hG : ∃ q, wz.drewN m = wz.drewN q := ⟨m, rfl⟩
      try simp only [Act.eval, Array.getD_eq_getD_getElem?] at ep3
      unfold Oper.wp
      simp [execOp, ep3, show (wz.drewN m).cell? ⟨x, 1, none⟩ = some (.string s) from c1, go_sem, Oper.upon]
      exact hK _ _ hT hG rfl
    · simp only [List.getElem?_toArray, List.getElem?_cons_zero, List.getElem?_cons_succ, Option.some.injEq] at ho
      subst ho
      refine ⟨rfl, fun K hK => ?_⟩
      have dp4 := hdep ⟨4, .data⟩ (by simp) rfl
      have ep4 := hev 4 7 rfl dp4
      rw [hT 4 dp4] at ep4
      obtain ⟨m, rfl⟩ := hG
      have hG : ∃ q, wz.drewN m = wz.drewN q := ⟨m, rfl⟩
      try simp only [Act.eval, Array.getD_eq_getD_getElem?] at ep4
      unfold Oper.wp
      simp [execOp, ep4, go_sem, Oper.upon]
      exact hK _ _ hT hG rfl
    · simp only [List.getElem?_toArray, List.getElem?_cons_zero, List.getElem?_cons_succ, Option.some.injEq] at ho
      subst ho
      refine ⟨rfl, fun K hK => ?_⟩
      have q0 := (hout 0 (by decide)).trans (rfl : _ = (.pointer (some ⟨x, 0, none⟩) : Value))
      obtain ⟨m, rfl⟩ := hG
      have hG : ∃ q, wz.drewN m = wz.drewN q := ⟨m, rfl⟩
      try simp only [Act.eval, Array.getD_eq_getD_getElem?] at q0
      unfold Oper.wp
      simp [execOp, q0, go_sem, Oper.upon]
      exact hK _ _ hT hG rfl
    · simp only [List.getElem?_toArray, List.getElem?_cons_zero, List.getElem?_cons_succ, Option.some.injEq] at ho
      subst ho
      refine ⟨rfl, fun K hK => ?_⟩
      have dp6 := hdep ⟨6, .data⟩ (by simp) rfl
      have ep6 := hev 6 9 rfl dp6
      rw [hT 6 dp6] at ep6
      obtain ⟨m, rfl⟩ := hG
      have hG : ∃ q, wz.drewN m = wz.drewN q := ⟨m, rfl⟩
      try simp only [Act.eval, Array.getD_eq_getD_getElem?] at ep6
      unfold Oper.wp
      simp [execOp, ep6, go_sem, Oper.upon]
      exact hK _ _ hT hG rfl
    · simp only [List.getElem?_toArray, List.getElem?_cons_zero, List.getElem?_cons_succ, Option.some.injEq] at ho
      subst ho
      refine ⟨rfl, fun K hK => ?_⟩
      have dp7 := hdep ⟨7, .data⟩ (by simp) rfl
      have ep7 := hev 7 10 rfl dp7
      rw [hT 7 dp7] at ep7
      obtain ⟨m, rfl⟩ := hG
      have hG : ∃ q, wz.drewN m = wz.drewN q := ⟨m, rfl⟩
      try simp only [Act.eval, Array.getD_eq_getD_getElem?] at ep7
      unfold Oper.wp
      simp [execOp, ep7, go_sem, Oper.upon]
      exact hK _ _ hT hG rfl
    · simp only [List.getElem?_toArray, List.getElem?_cons_zero, List.getElem?_cons_succ, Option.some.injEq] at ho
      subst ho
      refine ⟨rfl, fun K hK => ?_⟩
      have dp8 := hdep ⟨8, .data⟩ (by simp) rfl
      have ep8 := hev 8 11 rfl dp8
      rw [hT 8 dp8] at ep8
      obtain ⟨m, rfl⟩ := hG
      have hG : ∃ q, wz.drewN m = wz.drewN q := ⟨m, rfl⟩
      try simp only [Act.eval, Array.getD_eq_getD_getElem?] at ep8
      unfold Oper.wp
      simp [execOp, ep8, go_sem, Oper.upon]
      exact hK _ _ hT hG rfl
    · simp only [List.getElem?_toArray, List.getElem?_cons_zero, List.getElem?_cons_succ, Option.some.injEq] at ho
      subst ho
      refine ⟨rfl, fun K hK => ?_⟩
      have dp9 := hdep ⟨9, .data⟩ (by simp) rfl
      have ep9 := hev 9 12 rfl dp9
      rw [hT 9 dp9] at ep9
      obtain ⟨m, rfl⟩ := hG
      have hG : ∃ q, wz.drewN m = wz.drewN q := ⟨m, rfl⟩
      try simp only [Act.eval, Array.getD_eq_getD_getElem?] at ep9
      unfold Oper.wp
      simp [execOp, ep9, show (wz.drewN m).cell? ⟨x, 3, none⟩ = some (.string ⟨#[]⟩) from c3, go_sem, Oper.upon]
      exact hK _ _ hT hG rfl
    · simp only [List.getElem?_toArray, List.getElem?_cons_zero, List.getElem?_cons_succ, Option.some.injEq] at ho
      subst ho
      refine ⟨rfl, fun K hK => ?_⟩
      have dp10 := hdep ⟨10, .data⟩ (by simp) rfl
      have ep10 := hev 10 13 rfl dp10
      rw [hT 10 dp10] at ep10
      obtain ⟨m, rfl⟩ := hG
      have hG : ∃ q, wz.drewN m = wz.drewN q := ⟨m, rfl⟩
      try simp only [Act.eval, Array.getD_eq_getD_getElem?] at ep10
      unfold Oper.wp
      simp [execOp, ep10, go_sem, Oper.upon]
      exact hK _ _ hT hG rfl
    · simp only [List.getElem?_toArray, List.getElem?_cons_zero, List.getElem?_cons_succ, Option.some.injEq] at ho
      subst ho
      refine ⟨rfl, fun K hK => ?_⟩
      have dp5 := hdep ⟨5, .data⟩ (by simp) rfl
      have ep5 := hev 5 8 rfl dp5
      rw [hT 5 dp5] at ep5
      have dp11 := hdep ⟨11, .data⟩ (by simp) rfl
      have ep11 := hev 11 14 rfl dp11
      rw [hT 11 dp11] at ep11
      obtain ⟨m, rfl⟩ := hG
      have hG : ∃ q, wz.drewN m = wz.drewN q := ⟨m, rfl⟩
      try simp only [Act.eval, Array.getD_eq_getD_getElem?] at ep5 ep11
      unfold Oper.wp
      simp [execOp, ep5, ep11, go_sem, Oper.upon]
      exact hK _ _ hT hG rfl
    · simp only [List.getElem?_toArray, List.getElem?_cons_zero, List.getElem?_cons_succ, Option.some.injEq] at ho
      subst ho
      refine ⟨rfl, fun K hK => ?_⟩
      have dp12 := hdep ⟨12, .data⟩ (by simp) rfl
      have ep12 := hev 12 15 rfl dp12
      rw [hT 12 dp12] at ep12
      obtain ⟨m, rfl⟩ := hG
      have hG : ∃ q, wz.drewN m = wz.drewN q := ⟨m, rfl⟩
      try simp only [Act.eval, Array.getD_eq_getD_getElem?] at ep12
      unfold Oper.wp
      simp [execOp, ep12, go_sem, Oper.upon]
      exact hK _ _ hT hG rfl
  intro listed vs wR hall hT hG
  generalize hfr : Inv.frA _ _ _ _ = fr
  simp [Inv.frA, Act.put] at hfr
  have ex0 : vs 0 = .pointer (some ⟨x, 0, none⟩) := hT 0 (by omega)
  try rw [ex0] at hfr
  clear ex0
  have ex1 : vs 1 = .pointer (some ⟨x, 0, none⟩) := hT 1 (by omega)
  try rw [ex1] at hfr
  clear ex1
  have ex2 : vs 2 = .pointer (some ⟨x, 0, none⟩) := hT 2 (by omega)
  try rw [ex2] at hfr
  clear ex2
  have ex3 : vs 3 = .pointer (some ⟨x, 1, none⟩) := hT 3 (by omega)
  try rw [ex3] at hfr
  clear ex3
  have ex4 : vs 4 = Value.string s := hT 4 (by omega)
  try rw [ex4] at hfr
  clear ex4
  have ex5 : vs 5 = .int .i64 ((s.size : Int)) := hT 5 (by omega)
  try rw [ex5] at hfr
  clear ex5
  have ex6 : vs 6 = .pointer (some ⟨x, 0, none⟩) := hT 6 (by omega)
  try rw [ex6] at hfr
  clear ex6
  have ex7 : vs 7 = .pointer (some ⟨x, 0, none⟩) := hT 7 (by omega)
  try rw [ex7] at hfr
  clear ex7
  have ex8 : vs 8 = .pointer (some ⟨x, 2, none⟩) := hT 8 (by omega)
  try rw [ex8] at hfr
  clear ex8
  have ex9 : vs 9 = .pointer (some ⟨x, 3, none⟩) := hT 9 (by omega)
  try rw [ex9] at hfr
  clear ex9
  have ex10 : vs 10 = Value.string ⟨#[]⟩ := hT 10 (by omega)
  try rw [ex10] at hfr
  clear ex10
  have ex11 : vs 11 = .int .i64 (0) := hT 11 (by omega)
  try rw [ex11] at hfr
  clear ex11
  have ex12 : vs 12 = .int .i64 ((s.size : Int)) := hT 12 (by omega)
  try rw [ex12] at hfr
  clear ex12
  have ex13 : vs 13 = .int .i64 ((s.size : Int)) := hT 13 (by omega)
  try rw [ex13] at hfr
  clear ex13
  clear hT hall
  subst hfr
  obtain ⟨m, rfl⟩ := hG
  go_wp2_with fail
  go_ret
  exact Drew.intro m rfl rfl
def sz (x : Option (Nat × ByteArray)) : Nat := match x with | none => 0 | some (_, s) => s.size
def tx (x : Option (Nat × ByteArray)) : ByteArray := match x with | none => ⟨#[]⟩ | some (_, s) => s
theorem tx_size (x : Option (Nat × ByteArray)) : (tx x).size = sz x := by cases x <;> rfl
/-- a disk with room R that has at most the one file "a" -/
structure Dk (w : World) (bd B : Nat) (R : Int) (x : Option (Nat × ByteArray)) : Prop where
  blk : Blk w bd #[.int .i64 (R), .int .i64 ((sz x : Nat)), .bool false, .int .i64 (0), .map (some B)] 36
  map : MapOf w B (x.map (·.1))
  file : ∀ f s, x = some (f, s) → Blk w f #[.bool true, .string s, .bool false, .string ⟨#[]⟩] 62
theorem MapOf.keep {S : Nat → Prop} {w w' : World} {B : Nat} {x : Option Nat} (h : MapOf w B x) (k : Only S w w') (hn : ¬ S B) : MapOf w' B x := by
  cases x with
  | none =>
    obtain ⟨c, h⟩ := h
    exact ⟨c, (k.block B (Array.getElem?_eq_some_iff.1 h).1 hn).trans h⟩
  | some f =>
    obtain ⟨c, n, h⟩ := h
    exact ⟨c, n, (k.block B (Array.getElem?_eq_some_iff.1 h).1 hn).trans h⟩
theorem MapOf.lt {w : World} {B : Nat} {x : Option Nat} (h : MapOf w B x) : B < w.heap.size := by
  cases x with
  | none => obtain ⟨c, h⟩ := h; exact (Array.getElem?_eq_some_iff.1 h).1
  | some f => obtain ⟨c, n, h⟩ := h; exact (Array.getElem?_eq_some_iff.1 h).1
theorem MapOf.ne {w : World} {B : Nat} {x : Option Nat} (h : MapOf w B x) {b : Nat} {cs : Array Value} {T : TypeId} (k : Blk w b cs T) : B ≠ b := by
  rintro rfl
  unfold Blk at k
  cases x with
  | none => obtain ⟨c, h⟩ := h; rw [h] at k; cases k
  | some f => obtain ⟨c, n, h⟩ := h; rw [h] at k; cases k
theorem Dk.keep {S : Nat → Prop} {w w' : World} {bd B : Nat} {R : Int} {x : Option (Nat × ByteArray)} (h : Dk w bd B R x) (k : Only S w w') (h1 : ¬ S bd) (h2 : ¬ S B) (h3 : ∀ f s, x = some (f, s) → ¬ S f) : Dk w' bd B R x :=
  ⟨h.blk.keep k h1, h.map.keep k h2, fun f s e => (h.file f s e).keep k (h3 f s e)⟩
theorem Dk.below {w w' : World} {bd B : Nat} {R : Int} {x : Option (Nat × ByteArray)} (h : Dk w bd B R x) (k : Below w.heap.size w w') : Dk w' bd B R x :=
  h.keep (only_of_below k (fun _ => False)) (fun e => e) (fun e => e) (fun _ _ _ e => e)
theorem disk_get (bd B : Nat) (R : Int) (x : Option (Nat × ByteArray)) (w : World) (h : Dk w bd B R x) :
    Calls Try.prog 19 #[.pointer (some ⟨bd, 0, none⟩), .string ⟨#[97]⟩] w (fun e w' => ∃ y t, e = .returned (.pointer (some ⟨y, 0, none⟩)) ∧ Blk w' y #[.bool t, .string (tx x), .bool false, .string ⟨#[]⟩] 62 ∧ Below w.heap.size w w') := by
  have c4 := h.blk.cell 4
  simp only [List.getElem?_toArray, List.getElem?_cons_zero, List.getElem?_cons_succ] at c4
  have hl : (Instr.lookup 34 (.map (some B)) (.string ⟨#[97]⟩) true).run Try.prog w = _ := run_look w B _ h.map
  cases x with
  | none =>
    simp only [Option.map_none, Option.isSome_none] at hl
    (go_enter Try.func19, Try.ntmps19)
    go_wp2_with fail
    go_ret
    exact ⟨_, false, rfl, Blk.new _ _ _, Below.alloc (Below.refl _ _) (Nat.le_refl _) _⟩
  | some fs =>
    obtain ⟨f, s⟩ := fs
    have hf := Lib.hid (h.file f s rfl)
    simp only [Option.map_some, Option.isSome_some] at hl
    (go_enter Try.func19, Try.ntmps19)
    go_wp2_with fail
    go_ret
    exact ⟨_, true, rfl, hf.out, Below.refl _ _⟩
end Go.Proofs.Ytloimgmifalpnaa
