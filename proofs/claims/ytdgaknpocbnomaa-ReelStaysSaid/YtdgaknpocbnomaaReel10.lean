/- A volume that a law has made, and the calls on it: what a law needs of each. No condition. -/
import Derived.Test.YtdgaknpocbnomaaReel9
set_option linter.unusedSimpArgs false
set_option linter.unusedVariables false
namespace Go.Proofs.Ytdgaknpocbnomaa
open Go.RowKit
set_option maxHeartbeats 2000000
set_option maxRecDepth 100000

theorem Vol.Ok.erase {x : Vol} (h : x.Ok) (l : ByteArray) (he : x.er < 1000000000) : (x.erase l).2.Ok := by
  obtain ⟨o1, o2, o3, o4, o5, o6, o7, o8, o9⟩ := h
  have hf := tryR_fail x.lost x.fail o4
  unfold Vol.erase
  split
  · exact ⟨o1, o2, o3, hf, o5, o6, o7, o8, o9⟩
  split
  · exact ⟨o1, o2, o3, hf, o5, o6, o7, o8, o9⟩
  · exact ⟨Int.le_refl _, by simp only; omega, o3, hf, by simp, by simp, by simp, by simp, by simp only; omega⟩
theorem Vol.Ok.crash {x : Vol} (h : x.Ok) (ch : List Int) (hl : x.bl.length < 1000000) : (x.crash ch).Ok := by
  obtain ⟨o1, o2, o3, o4, o5, o6, o7, o8, o9⟩ := h
  obtain ⟨h1, h2⟩ := takeAll_bd x.room (crashOut x ch) 0 (Int.le_refl _) (by omega)
  obtain ⟨h3, h4⟩ := crashOut_ok x ch o8 o5
  have h5 : (crashOut x ch).length ≤ 1000000 := by
    unfold crashOut
    repeat' split
    all_goals (simp only [List.length_append, List.length_take, List.length_singleton]; omega)
  exact ⟨h1, h2, o3, o4, h5, Nat.le_refl _, Nat.zero_le _, h3, o9⟩
/-- block b is volume x; nothing of W has turned, and b is not W's -/
structure RV (W w : World) (base b : Nat) (x : Vol) : Prop where
  ex : ∃ v, RelV w base b v x
  bel : Below W.heap.size W w
  lo : W.heap.size ≤ b
  hi : b < base
  ok : x.Ok
theorem RV.step {W w w' : World} {base b : Nat} {x x' : Vol} (h : RV W w base b x) (k : RelTo w base b x' w') (ok : x'.Ok) : RV W w' base b x' := by
  obtain ⟨v', hr, ho⟩ := k
  refine ⟨⟨v', hr⟩, ho.under h.bel ?_, h.lo, h.hi, ok⟩
  intro k hk
  rcases hk with rfl | ⟨hk, _⟩
  · exact h.lo
  · have := h.lo; have := h.hi; omega
theorem RV.below {W w w' : World} {base b : Nat} {x : Vol} (h : RV W w base b x) (k : Below w.heap.size w w') : RV W w' base b x := by
  obtain ⟨v, hv⟩ := h.ex
  obtain ⟨h1, _⟩ := hv.below k
  exact ⟨⟨v, h1⟩, h.bel.trans (k.mono h.bel.size), h.lo, h.hi, h.ok⟩
theorem RV.drewN {W w : World} {base b : Nat} {x : Vol} (h : RV W w base b x) (n : Nat) : RV W (w.drewN n) base b x := h.below (below_drew (Below.refl _ _) n)
theorem RV.lt {W w : World} {base b : Nat} {x : Vol} (h : RV W w base b x) : b < w.heap.size := by
  obtain ⟨v, hv⟩ := h.ex
  exact hv.blk.lt
section
variable {W w : World} {base b : Nat} {x : Vol}
theorem rv_New (r m : Int) (hm : m = max r 0) (hr : r ≤ 4611686018427387904) (hB : Below W.heap.size W w) :
    Calls Try.prog 10 #[.int .i64 (r)] w (fun e w' => ∃ b base, e = .returned (.pointer (some ⟨b, 0, none⟩)) ∧ RV W w' base b (Vol.new m)) := by
  refine (reel_New r m hm hr w).mono ?_
  rintro e w' ⟨b, rfl, h1, h2, h3, h4⟩
  refine ⟨b, w'.heap.size, rfl, ⟨_, h4⟩, hB.trans (h3.mono hB.size), by have := hB.size; omega, h2, ?_⟩
  refine ⟨Int.le_refl _, by simp only [Vol.new]; omega, by simp only [Vol.new]; omega, by simp [Vol.new], by simp [Vol.new], by simp [Vol.new], by simp [Vol.new], by simp [Vol.new], by simp [Vol.new]⟩
theorem rv_Write (h : RV W w base b x) (s : ByteArray) (hs : s.size ≤ 1000000) (hl : x.bl.length < 1000000) :
    Calls Try.prog 12 #[.pointer (some ⟨b, 0, none⟩), .string s] w (fun e w' => e = .returned (.int .i64 ((x.write ⟨s, false, false⟩).1)) ∧ RV W w' base b (x.write ⟨s, false, false⟩).2) := by
  obtain ⟨v, hv⟩ := h.ex
  exact (reel_Write x h.ok s hs base b v w hv).mono fun e w' ⟨he, hr⟩ => ⟨he, h.step hr (h.ok.write _ hs hl)⟩
theorem rv_Mark (h : RV W w base b x) (hl : x.bl.length < 1000000) :
    Calls Try.prog 17 #[.pointer (some ⟨b, 0, none⟩)] w (fun e w' => e = .returned (.int .i64 ((x.write ⟨⟨#[]⟩, true, false⟩).1)) ∧ RV W w' base b (x.write ⟨⟨#[]⟩, true, false⟩).2) := by
  obtain ⟨v, hv⟩ := h.ex
  exact (reel_Mark x h.ok base b v w hv).mono fun e w' ⟨he, hr⟩ => ⟨he, h.step hr (h.ok.write _ (by decide) hl)⟩
theorem rv_Flush (h : RV W w base b x) : Calls Try.prog 19 #[.pointer (some ⟨b, 0, none⟩)] w (fun e w' => e = .returned (.int .i64 (x.flush.1)) ∧ RV W w' base b x.flush.2) := by
  obtain ⟨v, hv⟩ := h.ex
  exact (reel_Flush x h.ok base b v w hv).mono fun e w' ⟨he, hr⟩ => ⟨he, h.step hr h.ok.flush⟩
theorem rv_Seek (h : RV W w base b x) (n : Int) (hn : -9223372036854775808 ≤ n ∧ n ≤ 9223372036854775807) : Calls Try.prog 15 #[.pointer (some ⟨b, 0, none⟩), .int .i64 (n)] w (fun e w' => e = .returned (.int .i64 ((x.seek n).1)) ∧ RV W w' base b (x.seek n).2) := by
  obtain ⟨v, hv⟩ := h.ex
  exact (reel_Seek x h.ok n hn base b v w hv).mono fun e w' ⟨he, hr⟩ => ⟨he, h.step hr (h.ok.seek n)⟩
theorem rv_Skip (h : RV W w base b x) : Calls Try.prog 18 #[.pointer (some ⟨b, 0, none⟩)] w (fun e w' => e = .returned (.int .i64 (x.skip.1)) ∧ RV W w' base b x.skip.2) := by
  obtain ⟨v, hv⟩ := h.ex
  exact (reel_Skip x h.ok base b v w hv).mono fun e w' ⟨he, hr⟩ => ⟨he, h.step hr h.ok.skip⟩
theorem rv_Trim (h : RV W w base b x) : Calls Try.prog 21 #[.pointer (some ⟨b, 0, none⟩)] w (fun e w' => e = .returned (.int .i64 (x.trim.1)) ∧ RV W w' base b x.trim.2) := by
  obtain ⟨v, hv⟩ := h.ex
  exact (reel_Trim x h.ok base b v w hv h.hi).mono fun e w' ⟨he, hr⟩ => ⟨he, h.step hr h.ok.trim⟩
theorem rv_Erase (h : RV W w base b x) (l : ByteArray) (he : x.er < 1000000000) : Calls Try.prog 42 #[.pointer (some ⟨b, 0, none⟩), .string l] w (fun e w' => e = .returned (.int .i64 ((x.erase l).1)) ∧ RV W w' base b (x.erase l).2) := by
  obtain ⟨v, hv⟩ := h.ex
  exact (reel_Erase x h.ok l base b v w hv).mono fun e w' ⟨he', hr⟩ => ⟨he', h.step hr (h.ok.erase l he)⟩
theorem rv_Crash (h : RV W w base b x) (ch : List Int) (hwf : ∀ c ∈ ch, (Lit.int .i64 c).wf = true) (vch : Value) (len : Nat) (hch : Sl w vch len 1 (ch.map (.int .i64))) (hl : x.bl.length < 1000000) :
    Calls Try.prog 20 #[.pointer (some ⟨b, 0, none⟩), vch] w (fun e w' => e = .returned (.tuple #[]) ∧ RV W w' base b (x.crash ch)) := by
  obtain ⟨v, hv⟩ := h.ex
  exact (reel_Crash x h.ok ch hwf vch len base b v w hch hv h.hi).mono fun e w' ⟨he, hr⟩ => ⟨he, h.step hr (h.ok.crash ch hl)⟩
theorem rv_Len (h : RV W w base b x) : Calls Try.prog 14 #[.pointer (some ⟨b, 0, none⟩)] w (Same (.int .i64 ((x.bl.length : Nat))) w) := by
  obtain ⟨v, hv⟩ := h.ex
  exact reel_Len x base b v w hv
theorem rv_At (h : RV W w base b x) : Calls Try.prog 16 #[.pointer (some ⟨b, 0, none⟩)] w (Same (.int .i64 ((x.pos : Nat))) w) := by
  obtain ⟨v, hv⟩ := h.ex
  exact reel_At x base b v w hv
theorem rv_Used (h : RV W w base b x) : Calls Try.prog 13 #[.pointer (some ⟨b, 0, none⟩)] w (Drew (.int .i64 (x.used)) w) := by
  obtain ⟨v, hv⟩ := h.ex
  refine meter_used b 0 x.used w ?_
  rw [hv.blk.cell]
  rfl
theorem rv_Erased (h : RV W w base b x) : Calls Try.prog 24 #[.pointer (some ⟨b, 0, none⟩)] w (Same (.int .i64 (x.er)) w) := by
  obtain ⟨v, hv⟩ := h.ex
  have c9 := hv.blk.cell 9
  simp only [Vol.cells, List.getElem?_toArray, List.getElem?_cons_zero, List.getElem?_cons_succ] at c9
  (go_enter Try.func24, Try.ntmps24)
  go_wp2_with fail
  go_ret
  exact ⟨rfl, rfl⟩
def ab : ByteArray := ⟨#[97, 98]⟩
def cd : ByteArray := ⟨#[99, 100]⟩
def ef : ByteArray := ⟨#[101, 102]⟩
def X1 : Vol := ⟨100, 6, false, 0, ⟨#[]⟩, [⟨⟨#[97, 98]⟩, false, false⟩], 0, 1, false, 0⟩
def X2 : Vol := ⟨100, 6, false, 0, ⟨#[]⟩, [⟨⟨#[97, 98]⟩, false, false⟩], 1, 1, false, 0⟩
def X3 : Vol := ⟨100, 12, false, 0, ⟨#[]⟩, [⟨⟨#[97, 98]⟩, false, false⟩, ⟨⟨#[99, 100]⟩, false, false⟩], 1, 2, false, 0⟩
def X4 : Vol := ⟨100, 11, false, 0, ⟨#[]⟩, [⟨⟨#[97, 98]⟩, false, false⟩, ⟨⟨#[99]⟩, false, true⟩], 2, 0, false, 0⟩
def X5 : Vol := ⟨100, 11, false, 0, ⟨#[]⟩, [⟨⟨#[97, 98]⟩, false, false⟩, ⟨⟨#[99]⟩, false, true⟩], 2, 2, false, 0⟩
def X6 : Vol := ⟨100, 6, false, 0, ⟨#[]⟩, [⟨⟨#[97, 98]⟩, false, false⟩], 1, 1, false, 0⟩
def X7 : Vol := ⟨100, 12, false, 0, ⟨#[]⟩, [⟨⟨#[97, 98]⟩, false, false⟩, ⟨⟨#[101, 102]⟩, false, false⟩], 1, 2, false, 0⟩
theorem e1 : (Vol.new 100).write ⟨⟨#[97, 98]⟩, false, false⟩ = (0, X1) := by rfl
theorem e2 : X1.flush = (0, X2) := by rfl
theorem e3 : X2.write ⟨⟨#[99, 100]⟩, false, false⟩ = (0, X3) := by rfl
theorem e4 : X3.crash [0, 1] = X4 := by
  have h : crashOut X3 [0, 1] = X4.bl := by
    show crashOut X3 [0, 1] = _
    rfl
  unfold Vol.crash
  rw [h]
  rfl
theorem e5 : X4.seek 2 = (0, X5) := by rfl
theorem e6 : X5.write ⟨⟨#[101, 102]⟩, false, false⟩ = (16, X5) := by rfl
theorem e7 : X5.trim = (0, X6) := by rfl
theorem e8 : X6.write ⟨⟨#[101, 102]⟩, false, false⟩ = (0, X7) := by rfl
theorem rv_Read (h : RV W w base b x) :
    Calls Try.prog 23 #[.pointer (some ⟨b, 0, none⟩)] w (fun e w' => e = .returned (.tuple #[.string x.read.1.1, .bool x.read.1.2.1, .int .i64 (x.read.1.2.2)]) ∧ RV W w' base b x.read.2) := by
  obtain ⟨v, hv⟩ := h.ex
  exact (reel_Read x h.ok base b v w hv).mono fun e w' ⟨he, hr⟩ => ⟨he, h.step hr h.ok.read⟩
end
theorem awake_any (w : World) : Calls Try.prog 9 #[] w (Fresh (.bool true) w) := by
  (go_enter Try.func9, Try.ntmps9)
  go_wp2_with fail
  refine (rv_New 100 100 rfl (by decide) (Below.refl _ _)).mono ?_; rintro e w1 ⟨b, base, rfl, h1⟩
  go_wp2_with fail
  refine (rv_Write h1 _ (by decide) (by decide)).mono ?_; rintro e w2 ⟨rfl, h2⟩
  rw [e1] at h2 ⊢
  go_wp2_with fail
  refine (rv_Flush h2).mono ?_; rintro e w3 ⟨rfl, h3⟩
  rw [e2] at h3 ⊢
  go_wp2_with fail
  refine (rv_Write h3 _ (by decide) (by decide)).mono ?_; rintro e w4 ⟨rfl, h4⟩
  rw [e3] at h4 ⊢
  go_wp2_with fail
  refine (rv_Crash (RV.below h4 (Below.alloc (Below.refl _ _) (by simp) _)) [0, 1] (by intro c hc; simp at hc; rcases hc with rfl | rfl <;> rfl) _ 2 (by exact Sl.lit (Blk.new' (by simp)) (by decide) rfl) (by decide)).mono ?_; rintro e w5 ⟨rfl, h5⟩
  rw [e4] at h5
  go_wp2_with fail
  refine (rv_Len h5).mono ?_; rintro e w6 ⟨rfl, rfl⟩
  go_wp2_with fail
  refine (rv_Seek h5 2 (by decide)).mono ?_; rintro e w6 ⟨rfl, h6⟩
  rw [e5] at h6 ⊢
  go_wp2_with fail
  refine (rv_Write h6 _ (by decide) (by decide)).mono ?_; rintro e w7 ⟨rfl, h7⟩
  rw [e6] at h7 ⊢
  go_wp2_with fail
  refine (rv_Trim h7).mono ?_; rintro e w8 ⟨rfl, h8⟩
  rw [e7] at h8 ⊢
  go_wp2_with fail
  refine (rv_Write h8 _ (by decide) (by decide)).mono ?_; rintro e w9 ⟨rfl, h9⟩
  rw [e8] at h9 ⊢
  go_wp2_with fail
  refine (rv_Used h9).mono ?_; rintro e w10 ⟨k, rfl, rfl⟩
  go_wp2_with fail
  go_ret
  exact ⟨rfl, below_drew h9.bel _⟩
end Go.Proofs.Ytdgaknpocbnomaa
