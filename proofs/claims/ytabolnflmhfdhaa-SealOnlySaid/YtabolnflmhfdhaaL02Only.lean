/- SealOnly: one frame is opened as that; with bytes behind it not. No condition. -/
import Derived.Test.YtabolnflmhfdhaaL02A
set_option linter.unusedSimpArgs false
set_option linter.unusedVariables false
namespace Go.Proofs.Ytabolnflmhfdhaa
open Go.RowKit

theorem only_frame (a t : List UInt8) (h : a.length ≤ 1048576) : onlyL (Seal.frame a ++ t) = if t = [] then (a, 0) else ([], 3) := by
  unfold onlyL
  rw [Seal.open_frame a t h]
  have hl : (Seal.frame a ++ t).length = 8 + a.length + t.length := by rw [List.length_append, Seal.frame_length]
  rw [hl]
  by_cases c : t = []
  · subst c
    simp
  · have : 0 < t.length := List.length_pos_iff.2 c
    rw [if_pos ⟨rfl, by simp; omega⟩, if_neg c]

set_option maxHeartbeats 4000000 in
theorem SealOnly_walk (W : World) (v0 v1 : Value) (x0 : Kd.str.den) (w0 : Kd.str.Arg W v0 x0) (x1 : Kd.str.den) (w1 : Kd.str.Arg W v1 x1) :
    Calls Try.prog 4 #[v0, v1] W (Done W) := by
  obtain ⟨s0, rfl⟩ : ∃ s : ByteArray, s = x0 := ⟨_, rfl⟩
  obtain ⟨s1, rfl⟩ : ∃ s : ByteArray, s = x1 := ⟨_, rfl⟩
  obtain ⟨rfl, hs0⟩ := w0
  obtain ⟨rfl, hs1⟩ := w1
  obtain ⟨a, ha⟩ : ∃ a, a = s0.data.toList.take 100 := ⟨_, rfl⟩
  obtain ⟨t, ht⟩ : ∃ t, t = s1.data.toList.take 20 := ⟨_, rfl⟩
  have hz1 : (bs (Seal.frame a)).size ≤ 108 := by rw [bs_size, Seal.frame_length, ha]; simp; omega
  have hz2 : (bs t).size ≤ 20 := by rw [bs_size, ht]; simp; omega
  have hal : a.length ≤ 100 := by rw [ha]; simp; omega
  have htl : t.length ≤ 20 := by rw [ht]; simp; omega
  have cut0 := Lib.hid (cut_any s0 100 100 rfl (bs a) (by rw [ha]) hs0)
  have cut1 := Lib.hid (cut_any s1 20 20 rfl (bs t) (by rw [ht]) hs1)
  clear ha ht hs0 hs1
  have hfr := fun (v : Value) (w : World) (h : Sl w v 1 1 [.string (bs a)]) (hz : ∀ l c, v = .slice none l c → c = 0) => seal_frame v 1 [bs a] w h (by simp [cat, bs_toList]; omega) (by decide) hz
  rw [show cat [bs a] = a by simp [cat, bs_toList]] at hfr
  have Hfr := Lib.hid hfr
  have hon := fun (w : World) => seal_only (bs (Seal.frame a)) (by rw [bs_size, Seal.frame_length]; omega) a 0 (by rw [bs_toList]; have := only_frame a [] (by omega); simpa using this) w
  have Hon := Lib.hid hon
  clear hfr hon
  by_cases c : t = []
  · have hon2 := fun (w : World) => seal_only (bs (Seal.frame a) ++ bs t) (by rw [bs_append, bs_size]; simp [Seal.frame_length]; omega) a 0 (by rw [bs_append, bs_toList, only_frame a t (by omega), if_pos c]) w
    have Hon2 := Lib.hid hon2
    subst c
    clear hon2
    (go_enter Try.func4, Try.ntmps4)
    go_wp2_with fail
    refine (cut0.out _).mono ?_; rintro e w1 ⟨rfl, rfl⟩
    go_wp2_with fail
    refine (cut1.out _).mono ?_; rintro e w1 ⟨rfl, rfl⟩
    go_wp2_with fail
    refine (Hfr.out _ _ (by exact Sl.lit (Blk.new' (by simp)) (by decide) rfl) (by intro l c h; cases h)).mono ?_; rintro e w1 ⟨rfl, hb⟩
    have hB1 : Below W.heap.size W w1 := ((Below.refl _ _).alloc (Nat.le_refl _) _).trans (hb.mono (by simp))
    clear hb
    go_wp2_with fail
    refine (Hon.out _).mono ?_; rintro e w2 ⟨rfl, hb⟩
    have hB2 := hB1.trans (hb.mono hB1.size)
    clear hb hB1
    go_wp2_with fail
    refine (Hon2.out _).mono ?_; rintro e w3 ⟨rfl, hb⟩
    have hB3 := hB2.trans (hb.mono hB2.size)
    clear hb hB2
    go_wp2_with fail
    refine (awake_any _).mono ?_; rintro e w4 ⟨rfl, hb⟩
    have hB4 := hB3.trans (hb.mono hB3.size)
    go_wp2_with fail
    go_ret
    exact ⟨rfl, hB4⟩
  · have hon2 := fun (w : World) => seal_only (bs (Seal.frame a) ++ bs t) (by rw [bs_append, bs_size]; simp [Seal.frame_length]; omega) [] 3 (by rw [bs_append, bs_toList, only_frame a t (by omega), if_neg c]) w
    have Hon2 := Lib.hid hon2
    have e1 : (t == []) = false := by simpa using c
    have e2 : t.isEmpty = false := by simpa using c
    clear hon2 c
    (go_enter Try.func4, Try.ntmps4)
    go_wp2_with fail
    refine (cut0.out _).mono ?_; rintro e w1 ⟨rfl, rfl⟩
    go_wp2_with fail
    refine (cut1.out _).mono ?_; rintro e w1 ⟨rfl, rfl⟩
    go_wp2_with fail
    refine (Hfr.out _ _ (by exact Sl.lit (Blk.new' (by simp)) (by decide) rfl) (by intro l c h; cases h)).mono ?_; rintro e w1 ⟨rfl, hb⟩
    have hB1 : Below W.heap.size W w1 := ((Below.refl _ _).alloc (Nat.le_refl _) _).trans (hb.mono (by simp))
    clear hb
    go_wp2_with fail
    refine (Hon.out _).mono ?_; rintro e w2 ⟨rfl, hb⟩
    have hB2 := hB1.trans (hb.mono hB1.size)
    clear hb hB1
    go_wp2_with fail
    refine (Hon2.out _).mono ?_; rintro e w3 ⟨rfl, hb⟩
    have hB3 := hB2.trans (hb.mono hB2.size)
    clear hb hB2
    go_wp2_with fail
    refine (awake_any _).mono ?_; rintro e w4 ⟨rfl, hb⟩
    have hB4 := hB3.trans (hb.mono hB3.size)
    go_wp2_with fail
    go_ret
    exact ⟨rfl, hB4⟩
namespace SealOnly
open Go.ChangeShapes Go.WideShapes Go.ChangeAt Go.RowKit
set_option linter.unusedVariables false
theorem own : ownKnob Try.prog.godebug = none := by kernel_rfl
theorem laidOut : laidOutB Try.prog = true := by kernel_rfl
set_option maxRecDepth 100000 in
theorem lifted (os : Os) (started : os.Started) (H : Type) (enc : TypeId × Value → H) :
    ReturnsInHanded {} Try.checked os 4 .any (Rows.sealOnlySpec.pre6 enc Try.prog Try.f4 Rows.sealOnlyRow.domain false) (Rows.sealOnlySpec.post enc Try.prog Try.f4 false true false false) := by
  refine returnsInHanded_of_change (C := Try.checked) own started (by kernel_rfl) Try.func4
    (ChangeSpec.witness6 (enc := enc) (C := Try.checked) false ⟨#[], #[.string ⟨#[]⟩, .string ⟨#[]⟩], []⟩ 8 (by kernel_rfl) (by kernel_rfl) (by kernel_rfl) (by kernel_rfl)) ?_
  intro W base args ds gs before hval0 hW hcnd _
  have hval : ∀ (j : Nat) t v, Try.f4.params[j]? = some t → args[j]? = some v → Value.okWide Try.prog W .any base t v := hval0
  have hW' := hW
  obtain ⟨p, q, hA0, hV, rfl, hfz, hnd⟩ := hW
  have hA : DataW.TrodAll enc Try.prog W 0 (fun _ => true) true Try.f4.params.toList args.toList ds p := hA0
  rw [Try.params4] at hA hval
  obtain ⟨v0, vs0, d0, ds0, p0, q0, hargs, rfl, rfl, h0, r0⟩ := trodAll_cons hA
  obtain ⟨v1, vs1, d1, ds1, p1, q1, rfl, rfl, rfl, h1, r1⟩ := trodAll_cons r0
  obtain ⟨rfl, rfl, rfl⟩ := trodAll_nil r1
  obtain rfl : args = #[v0, v1] := by cases args; simp_all
  obtain ⟨rfl, rfl⟩ := trodVars_none hV
  have lt0 : ∀ x ∈ p0, x.block < W.heap.size := by obtain ⟨m, hm⟩ := h0; exact DataW.trod_lt m _ _ _ hm
  obtain ⟨x0, w0⟩ := arg_open (Kd.str) h0 (hval 0 _ v0 rfl rfl) (by kernel_rfl)
  have lt1 : ∀ x ∈ p1, x.block < W.heap.size := by obtain ⟨m, hm⟩ := h1; exact DataW.trod_lt m _ _ _ hm
  obtain ⟨x1, w1⟩ := arg_open (Kd.str) h1 (hval 1 _ v1 rfl rfl) (by kernel_rfl)
  clear hA0 hval0
  refine (SealOnly_walk W v0 v1 x0 w0 x1 w1).mono fun e W' ⟨he, bel⟩ => ?_
  subst he
  exact ⟨_, rfl, _, _, _, [], _, [], hW', trodAll_mk1 (shut_bool (by kernel_rfl) _), (trodAll_cons_mk (Below.trod laidOut (by kernel_rfl) (of_decide_eq_true (by kernel_rfl)) h0 bel lt0) (trodAll_cons_mk (Below.trod laidOut (by kernel_rfl) (of_decide_eq_true (by kernel_rfl)) h1 bel lt1) trodAll_mk0)), rfl, bel.frame _, fun h => by cases h⟩

theorem over : Rows.sealOnlyRow.holds Try.pinned (OpenSpec.ofChange Rows.sealOnlySpec) :=
  OpenClaim.holds_of_wide 4 Try.f4 rfl rfl rfl rfl rfl rfl rfl ⟨rfl, rfl, rfl, rfl, rfl⟩ rfl rfl rfl rfl rfl (by kernel_rfl) Try.func4 (by kernel_rfl)
    (of_decide_eq_true (by kernel_rfl)) (by unfold Func.isWrapper; rw [if_neg (of_decide_eq_false (by kernel_rfl))]; exact ⟨rfl, rfl⟩)
    (fun os started H enc _ => lifted os started H enc)
/-- THE STATEMENT. -/
theorem proved : Rows.SealOnlySaid := over
#print axioms proved
end SealOnly
end Go.Proofs.Ytabolnflmhfdhaa
