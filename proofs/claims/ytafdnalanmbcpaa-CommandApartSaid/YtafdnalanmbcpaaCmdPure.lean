/- A command as bytes, and bytes as a command, in plain Lean. No condition. -/
import Derived.Test.YtafdnalanmbcpaaWireP
set_option linter.unusedSimpArgs false
set_option linter.unusedVariables false
namespace Go.Proofs.Ytafdnalanmbcpaa
open Go.RowKit

namespace Wire
theorem decIs_inv (each : Int) (m : Nat) (l : List UInt8) (k : Int) (xs : List Nat) (rest : List UInt8) (h : decIs each m l k = (xs, rest, 0)) (he : 0 ≤ each) :
    k = 0 ∧ (xs.length = m) ∧ l = xs.flatMap num ++ rest ∧ ∀ x ∈ xs, (x : Int) ≤ each ∧ x < 2 ^ 64 := by
  induction m generalizing l k xs with
  | zero =>
    simp only [decIs, Prod.mk.injEq] at h
    obtain ⟨rfl, rfl, rfl⟩ := h
    exact ⟨rfl, rfl, rfl, by simp⟩
  | succ m ih =>
    rw [decIs] at h
    by_cases hk : k = 0
    · rw [if_pos hk] at h
      simp only [Prod.mk.injEq] at h
      obtain ⟨hx, hr⟩ := h
      obtain ⟨k1, h2, h3, h4⟩ := ih _ _ _ (Prod.ext rfl hr)
      obtain ⟨a1, a2, a3, a4⟩ := decI_inv each l k _ _ (show decI each l k = ((decI each l k).1, (decI each l k).2.1, 0) by rw [← k1])
      generalize decI each l k = r at *
      subst hx
      refine ⟨hk, by simp [h2], ?_, ?_⟩
      · rw [a2]
        simp only [List.flatMap_cons, List.append_assoc]
        rw [← h3]
      · intro x hx
        rcases List.mem_cons.1 hx with rfl | hx
        · exact ⟨by omega, a4⟩
        · exact h4 x hx
    · rw [if_neg hk] at h
      simp only [Prod.mk.injEq] at h
      exact absurd h.2.2 hk
theorem decL_inv (most each : Int) (l : List UInt8) (k : Int) (xs : List Nat) (rest : List UInt8) (he : 0 ≤ each) (h : decL most each l k = (xs, rest, 0)) :
    k = 0 ∧ l = num xs.length ++ xs.flatMap num ++ rest ∧ (xs.length : Int) ≤ max most 0 ∧ ∀ x ∈ xs, (x : Int) ≤ each ∧ x < 2 ^ 64 := by
  unfold decL at h
  split at h
  · obtain ⟨h1, h2, h3, h4⟩ := decIs_inv each _ _ _ _ _ h he
    obtain ⟨a1, a2, a3, a4⟩ := decI_inv most l k _ _ (show decI most l k = ((decI most l k).1, (decI most l k).2.1, 0) by rw [← h1])
    generalize decI most l k = r at *
    rw [← h2] at a2 a3
    exact ⟨a1, by rw [a2, h3, List.append_assoc], a3, h4⟩
  · rename_i h2
    simp only [Prod.mk.injEq] at h
    exact absurd (congrArg Prod.snd h.2) h2
theorem decIs_full (each : Int) (xs : List Nat) (hx : ∀ x ∈ xs, (x : Int) ≤ each ∧ x < 2 ^ 64) (rest : List UInt8) : decIs each xs.length (xs.flatMap num ++ rest) 0 = (xs, rest, 0) := by
  induction xs with
  | nil => rfl
  | cons x xs ih =>
    obtain ⟨h1, h2⟩ := hx x (by simp)
    have e : (x :: xs).flatMap num ++ rest = num x ++ (xs.flatMap num ++ rest) := by simp
    rw [e, List.length_cons, decIs, if_pos rfl, decI_num each x h2 h1]
    simp only
    rw [ih (fun y hy => hx y (by simp [hy]))]
theorem decL_full (most each : Int) (xs : List Nat) (hl : (xs.length : Int) ≤ most) (hl2 : xs.length < 2 ^ 64) (hx : ∀ x ∈ xs, (x : Int) ≤ each ∧ x < 2 ^ 64) (rest : List UInt8) : decL most each (num xs.length ++ xs.flatMap num ++ rest) 0 = (xs, rest, 0) := by
  unfold decL
  rw [List.append_assoc, decI_num most xs.length hl2 hl]
  simp only
  rw [decIs_full each xs hx rest]
  rfl
theorem decIs_stuck (each : Int) (m : Nat) (l : List UInt8) (k : Int) (hk : k ≠ 0) : decIs each m l k = ([], l, k) := by
  cases m with
  | zero => rfl
  | succ m => rw [decIs, if_neg hk]
theorem decIs_cut (each : Int) (xs : List Nat) (hx : ∀ x ∈ xs, (x : Int) ≤ each ∧ x < 2 ^ 64) (j : Nat) (hj : j < (xs.flatMap num).length) : (decIs each xs.length ((xs.flatMap num).take j) 0).2.2 = 2 := by
  induction xs generalizing j with
  | nil => simp at hj
  | cons x xs ih =>
    obtain ⟨h1, h2⟩ := hx x (by simp)
    rw [List.length_cons, decIs, if_pos rfl, List.flatMap_cons, List.take_append]
    simp only [List.flatMap_cons, List.length_append] at hj
    by_cases c : j < (num x).length
    · rw [show j - (num x).length = 0 by omega, List.take_zero, List.append_nil, decI_cut each x h2 j c]
      simp only
      rw [decIs_stuck _ _ _ _ (by decide)]
    · rw [List.take_of_length_le (by omega), decI_num each x h2 h1]
      simp only
      exact ih (fun y hy => hx y (by simp [hy])) _ (by omega)
theorem decL_cut (most each : Int) (xs : List Nat) (hl : (xs.length : Int) ≤ most) (hl2 : xs.length < 2 ^ 64) (hx : ∀ x ∈ xs, (x : Int) ≤ each ∧ x < 2 ^ 64) (j : Nat) (hj : j < (num xs.length ++ xs.flatMap num).length) :
    (decL most each ((num xs.length ++ xs.flatMap num).take j) 0).2.2 = 2 := by
  unfold decL
  rw [List.take_append]
  simp only [List.length_append] at hj
  by_cases c : j < (num xs.length).length
  · rw [show j - (num xs.length).length = 0 by omega, List.take_zero, List.append_nil, decI_cut most _ hl2 j c]
    simp only
    rw [decIs_stuck _ _ _ _ (by decide), if_neg (by decide)]
  · rw [List.take_of_length_le (by omega), decI_num most _ hl2 hl]
    simp only
    have h := decIs_cut each xs hx (j - (num xs.length).length) (by omega)
    rw [if_neg (by rw [h]; decide)]
    exact h
theorem decU_stuck (l : List UInt8) (k : Int) (hk : k ≠ 0) : (decU l k).2.2 = k := by unfold decU; rw [if_neg hk]
theorem decI_stuck (most : Int) (l : List UInt8) (k : Int) (hk : k ≠ 0) : (decI most l k).2.2 = k := by
  unfold decI
  have := decU_stuck l k hk
  split
  · rw [this, if_neg hk]
  · exact this
theorem decS_stuck (most : Int) (l : List UInt8) (k : Int) (hk : k ≠ 0) : (decS most l k).2.2 = k := by
  unfold decS
  have := decI_stuck most l k hk
  rw [if_neg (by rw [this]; exact hk)]
  exact this
theorem decL_stuck (most each : Int) (l : List UInt8) (k : Int) (hk : k ≠ 0) : (decL most each l k).2.2 = k := by
  unfold decL
  have := decI_stuck most l k hk
  rw [decIs_stuck each _ _ _ (by rw [this]; exact hk), if_neg (by rw [this]; exact hk)]
  exact this
/-- one field of bytes that are cut off -/
theorem cut_step {α : Type} (f : List UInt8 → Int → α × List UInt8 × Int) (b : List UInt8) (v : α) (hs : ∀ l, (f l 2).2.2 = 2) (hf : ∀ rest, f (b ++ rest) 0 = (v, rest, 0)) (hc : ∀ j, j < b.length → (f (b.take j) 0).2.2 = 2)
    (tail l : List UInt8) (k : Int) (h : k = 2 ∨ (k = 0 ∧ ∃ j, j < (b ++ tail).length ∧ l = (b ++ tail).take j)) : (f l k).2.2 = 2 ∨ ((f l k).2.2 = 0 ∧ ∃ j, j < tail.length ∧ (f l k).2.1 = tail.take j) := by
  rcases h with rfl | ⟨rfl, j, hj, rfl⟩
  · exact Or.inl (hs l)
  · rw [List.take_append]
    simp only [List.length_append] at hj
    by_cases c : j < b.length
    · rw [show j - b.length = 0 by omega, List.take_zero, List.append_nil]
      exact Or.inl (hc j c)
    · rw [List.take_of_length_le (by omega), hf]
      exact Or.inr ⟨rfl, _, by omega, rfl⟩
end Wire

/-- a command, plainly -/
structure Cmd where
  kind : Int
  client : Int
  seq : Int
  name : List UInt8
  blob : Nat
  size : Int
  sum : Nat
  disks : List Int
  pool : Int
  vol : Int
  blk : Int
namespace Cmd
/-- rising from p on, each below 6 -/
def rise : Int → List Int → Bool
  | _, [] => true
  | p, d :: l => decide (p < d ∧ d < 6) && rise d l
def Fits (c : Cmd) : Prop := (1 ≤ c.kind ∧ c.kind ≤ 14) ∧ (0 ≤ c.client ∧ c.client ≤ 1073741824) ∧ (0 ≤ c.seq ∧ c.seq ≤ 1073741824) ∧ c.name.length ≤ 32 ∧ (0 ≤ c.size ∧ c.size ≤ 4000) ∧ c.disks.length ≤ 6 ∧ (0 ≤ c.pool ∧ c.pool ≤ 1) ∧ (0 ≤ c.vol ∧ c.vol ≤ 11) ∧ (0 ≤ c.blk ∧ c.blk ≤ 1073741824)
instance (c : Cmd) : Decidable c.Fits := by unfold Fits; infer_instance
def good (c : Cmd) : Bool := rise (-1) c.disks && decide c.Fits
theorem rise_len (p : Int) (l : List Int) (h : rise p l = true) (hp : -1 ≤ p ∧ p ≤ 5) : (l.length : Int) ≤ 5 - p := by
  induction l generalizing p with
  | nil => simp; omega
  | cons d l ih =>
    simp only [rise, Bool.and_eq_true, decide_eq_true_eq] at h
    have := ih d h.2 (by omega)
    simp only [List.length_cons]
    omega
theorem rise_mem (p : Int) (l : List Int) (h : rise p l = true) : ∀ x ∈ l, p < x ∧ x < 6 := by
  induction l generalizing p with
  | nil => simp
  | cons d l ih =>
    simp only [rise, Bool.and_eq_true, decide_eq_true_eq] at h
    intro x hx
    rcases List.mem_cons.1 hx with rfl | hx
    · exact h.1
    · have := ih d h.2 x hx
      omega
/-- its bytes -/
def bytes (c : Cmd) : List UInt8 :=
  Wire.num c.kind.toNat ++ (Wire.num c.client.toNat ++ (Wire.num c.seq.toNat ++ ((Wire.num c.name.length ++ c.name) ++ (Wire.num c.blob ++ (Wire.num c.size.toNat ++ (Wire.num c.sum ++ ((Wire.num (c.disks.map Int.toNat).length ++ (c.disks.map Int.toNat).flatMap Wire.num) ++ (Wire.num c.pool.toNat ++ (Wire.num c.vol.toNat ++ (Wire.num c.blk.toNat ++ []))))))))))
/-- what is taken -/
structure Taken where
  a1 : Nat × List UInt8 × Int
  a2 : Nat × List UInt8 × Int
  a3 : Nat × List UInt8 × Int
  a4 : List UInt8 × List UInt8 × Int
  a5 : Nat × List UInt8 × Int
  a6 : Nat × List UInt8 × Int
  a7 : Nat × List UInt8 × Int
  a8 : List Nat × List UInt8 × Int
  a9 : Nat × List UInt8 × Int
  b1 : Nat × List UInt8 × Int
  b2 : Nat × List UInt8 × Int
structure Taken.Of (t : Taken) (l : List UInt8) : Prop where
  h1 : t.a1 = Wire.decI 14 l 0
  h2 : t.a2 = Wire.decI 1073741824 t.a1.2.1 t.a1.2.2
  h3 : t.a3 = Wire.decI 1073741824 t.a2.2.1 t.a2.2.2
  h4 : t.a4 = Wire.decS 32 t.a3.2.1 t.a3.2.2
  h5 : t.a5 = Wire.decU t.a4.2.1 t.a4.2.2
  h6 : t.a6 = Wire.decI 4000 t.a5.2.1 t.a5.2.2
  h7 : t.a7 = Wire.decU t.a6.2.1 t.a6.2.2
  h8 : t.a8 = Wire.decL 6 5 t.a7.2.1 t.a7.2.2
  h9 : t.a9 = Wire.decI 1 t.a8.2.1 t.a8.2.2
  g1 : t.b1 = Wire.decI 11 t.a9.2.1 t.a9.2.2
  g2 : t.b2 = Wire.decI 1073741824 t.b1.2.1 t.b1.2.2
/-- the command that was taken -/
def Taken.cmd (t : Taken) : Cmd := ⟨t.a1.1, t.a2.1, t.a3.1, t.a4.1, t.a5.1, t.a6.1, t.a7.1 % 4294967296, t.a8.1.map Int.ofNat, t.a9.1, t.b1.1, t.b2.1⟩
/-- the error behind it -/
def Taken.err (t : Taken) : Int := Wire.decD t.b2.2.1 (if t.b2.2.2 = 0 ∧ (4294967296 ≤ t.a7.1 ∨ t.cmd.good = false) then 3 else t.b2.2.2)

theorem map_ofNat (l : List Nat) : (l.map Int.ofNat).map Int.toNat = l := by
  rw [List.map_map]
  conv => rhs; rw [← List.map_id l]
  congr 1
theorem map_toNat (l : List Int) (h : ∀ x ∈ l, 0 ≤ x) : (l.map Int.toNat).map Int.ofNat = l := by
  rw [List.map_map]
  conv => rhs; rw [← List.map_id l]
  apply List.map_congr_left
  intro x hx
  have := h x hx
  show ((x.toNat : Nat) : Int) = x
  omega
/-- bytes that are taken as a command are its bytes -/
theorem Taken.inv {t : Taken} {l : List UInt8} (h : t.Of l) (he : t.err = 0) : l = t.cmd.bytes ∧ t.cmd.good = true ∧ t.cmd.blob < 2 ^ 64 ∧ t.cmd.sum < 2 ^ 32 := by
  have hbb : t.b2.2.1 = [] ∧ t.b2.2.2 = 0 ∧ t.a7.1 < 4294967296 ∧ t.cmd.good = true := by
    have h0 : (if t.b2.2.2 = 0 ∧ (4294967296 ≤ t.a7.1 ∨ t.cmd.good = false) then (3 : Int) else t.b2.2.2) = 0 := by
      unfold Taken.err Wire.decD at he
      generalize (if t.b2.2.2 = 0 ∧ (4294967296 ≤ t.a7.1 ∨ t.cmd.good = false) then (3 : Int) else t.b2.2.2) = x at *
      by_cases hc : t.b2.2.1 ≠ [] ∧ x = 0
      · exact hc.2
      · rw [if_neg hc] at he
        exact he
    unfold Taken.err Wire.decD at he
    rw [h0] at he
    have hb : t.b2.2.1 = [] := by
      by_cases e : t.b2.2.1 = []
      · exact e
      · rw [if_pos ⟨e, rfl⟩] at he
        exact absurd he (by decide)
    by_cases hG : t.b2.2.2 = 0 ∧ (4294967296 ≤ t.a7.1 ∨ t.cmd.good = false)
    · rw [if_pos hG] at h0
      exact absurd h0 (by decide)
    · rw [if_neg hG] at h0
      refine ⟨hb, h0, Nat.lt_of_not_le (fun hh => hG ⟨h0, Or.inl hh⟩), ?_⟩
      cases hg : t.cmd.good
      · exact absurd ⟨h0, Or.inr hg⟩ hG
      · rfl
  clear he
  obtain ⟨hb, he, hsum⟩ := hbb
  obtain ⟨a1, a2, a3, a4, a5, a6, a7, a8, a9, b1, b2⟩ := t
  obtain ⟨h1, h2, h3, h4, h5, h6, h7, h8, h9, g1, g2⟩ := h
  simp only at h1 h2 h3 h4 h5 h6 h7 h8 h9 g1 g2 he hb hsum
  obtain ⟨n1, l1, k1⟩ := a1
  obtain ⟨n2, l2, k2⟩ := a2
  obtain ⟨n3, l3, k3⟩ := a3
  obtain ⟨n4, l4, k4⟩ := a4
  obtain ⟨n5, l5, k5⟩ := a5
  obtain ⟨n6, l6, k6⟩ := a6
  obtain ⟨n7, l7, k7⟩ := a7
  obtain ⟨n8, l8, k8⟩ := a8
  obtain ⟨n9, l9, k9⟩ := a9
  obtain ⟨m1, l10, k10⟩ := b1
  obtain ⟨m2, l11, k11⟩ := b2
  simp only at h1 h2 h3 h4 h5 h6 h7 h8 h9 g1 g2 he hb hsum
  subst hb
  subst he
  obtain ⟨rfl, e11, _, _⟩ := Wire.decI_inv _ _ _ _ _ g2.symm
  obtain ⟨rfl, e10, _, _⟩ := Wire.decI_inv _ _ _ _ _ g1.symm
  obtain ⟨rfl, e9, _, _⟩ := Wire.decI_inv _ _ _ _ _ h9.symm
  obtain ⟨rfl, e8, _, _⟩ := Wire.decL_inv _ _ _ _ _ _ (by omega) h8.symm
  obtain ⟨rfl, e7, _⟩ := Wire.decU_inv _ _ _ _ h7.symm
  obtain ⟨rfl, e6, _, _⟩ := Wire.decI_inv _ _ _ _ _ h6.symm
  obtain ⟨rfl, e5, hb5⟩ := Wire.decU_inv _ _ _ _ h5.symm
  obtain ⟨rfl, e4, _⟩ := Wire.decS_inv _ _ _ _ _ h4.symm
  obtain ⟨rfl, e3, _, _⟩ := Wire.decI_inv _ _ _ _ _ h3.symm
  obtain ⟨rfl, e2, _, _⟩ := Wire.decI_inv _ _ _ _ _ h2.symm
  obtain ⟨_, e1, _, _⟩ := Wire.decI_inv _ _ _ _ _ h1.symm
  refine ⟨?_, hsum.2, hb5, Nat.mod_lt _ (by omega)⟩
  rw [e1, e2, e3, e4, e5, e6, e7, e8, e9, e10, e11]
  simp only [Taken.cmd, bytes, map_ofNat, Int.toNat_natCast, Nat.mod_eq_of_lt hsum.1, List.append_assoc]
/-- what must be of a command so that its bytes are taken -/
structure Sound (c : Cmd) : Prop where
  good : c.good = true
  blob : c.blob < 2 ^ 64
  sum : c.sum < 2 ^ 32
theorem Sound.fits {c : Cmd} (h : c.Sound) : c.Fits := by
  have := h.good
  simp only [Cmd.good, Bool.and_eq_true, decide_eq_true_eq] at this
  exact this.2
theorem Sound.rise {c : Cmd} (h : c.Sound) : rise (-1) c.disks = true := by
  have := h.good
  simp only [Cmd.good, Bool.and_eq_true, decide_eq_true_eq] at this
  exact this.1
theorem toNat_cast (x : Int) (h : 0 ≤ x) : ((x.toNat : Nat) : Int) = x := by omega
/-- a command's bytes, with more behind, are taken -/
theorem Taken.full {t : Taken} {c : Cmd} (hc : c.Sound) (rest : List UInt8) (h : t.Of (c.bytes ++ rest)) : t.cmd = c ∧ t.a7.1 = c.sum ∧ t.b2.2.1 = rest ∧ t.b2.2.2 = 0 := by
  obtain ⟨f1, f2, f3, f4, f5, f6, f7, f8, f9⟩ := hc.fits
  have hr := hc.rise
  have hm := rise_mem _ _ hr
  obtain ⟨_, hbl, hsm⟩ := hc
  obtain ⟨a1, a2, a3, a4, a5, a6, a7, a8, a9, b1, b2⟩ := t
  obtain ⟨h1, h2, h3, h4, h5, h6, h7, h8, h9, g1, g2⟩ := h
  simp only at h1 h2 h3 h4 h5 h6 h7 h8 h9 g1 g2
  obtain ⟨kind, client, seq, name, blob, size, sum, disks, pool, vol, blk⟩ := c
  simp only at f1 f2 f3 f4 f5 f6 f7 f8 f9 hr hm hbl hsm
  simp only [bytes, List.append_nil] at h1
  rw [List.append_assoc, Wire.decI_num _ _ (by omega) (by omega)] at h1
  subst h1
  simp only at h2
  rw [List.append_assoc, Wire.decI_num _ _ (by omega) (by omega)] at h2
  subst h2
  simp only at h3
  rw [List.append_assoc, Wire.decI_num _ _ (by omega) (by omega)] at h3
  subst h3
  simp only at h4
  rw [List.append_assoc (Wire.num name.length ++ name), Wire.decS_text _ _ (by omega) (by omega)] at h4
  subst h4
  simp only at h5
  rw [List.append_assoc, Wire.decU_num _ hbl] at h5
  subst h5
  simp only at h6
  rw [List.append_assoc, Wire.decI_num _ _ (by omega) (by omega)] at h6
  subst h6
  simp only at h7
  rw [List.append_assoc, Wire.decU_num _ (by omega)] at h7
  subst h7
  simp only at h8
  rw [List.append_assoc (Wire.num (disks.map Int.toNat).length ++ (disks.map Int.toNat).flatMap Wire.num), Wire.decL_full 6 5 _ (by simp; omega) (by simp; omega) (by
    intro x hx
    obtain ⟨y, hy, rfl⟩ := List.mem_map.1 hx
    have := hm y hy
    omega)] at h8
  subst h8
  simp only at h9
  rw [List.append_assoc, Wire.decI_num _ _ (by omega) (by omega)] at h9
  subst h9
  simp only at g1
  rw [List.append_assoc, Wire.decI_num _ _ (by omega) (by omega)] at g1
  subst g1
  simp only at g2
  rw [Wire.decI_num _ _ (by omega) (by omega)] at g2
  subst g2
  refine ⟨?_, rfl, rfl, rfl⟩
  simp only [Taken.cmd, Cmd.mk.injEq, true_and]
  refine ⟨toNat_cast _ (by omega), toNat_cast _ (by omega), toNat_cast _ (by omega), toNat_cast _ (by omega), Nat.mod_eq_of_lt (by omega), map_toNat _ (fun x hx => by have := hm x hx; omega), toNat_cast _ (by omega), toNat_cast _ (by omega), toNat_cast _ (by omega)⟩
theorem Taken.back {t : Taken} {c : Cmd} (hc : c.Sound) (h : t.Of c.bytes) : t.cmd = c ∧ t.err = 0 := by
  obtain ⟨e1, e2, e3, e4⟩ := Taken.full hc [] (by rw [List.append_nil]; exact h)
  have hs := hc.sum
  refine ⟨e1, ?_⟩
  unfold Taken.err
  rw [e1, e2, e3, e4, hc.good, if_neg (by simp; omega)]
  rfl
theorem Taken.more {t : Taken} {c : Cmd} (hc : c.Sound) (rest : List UInt8) (hr : rest ≠ []) (h : t.Of (c.bytes ++ rest)) : t.err = 3 := by
  obtain ⟨e1, e2, e3, e4⟩ := Taken.full hc rest h
  have hs := hc.sum
  unfold Taken.err
  rw [e1, e2, e3, e4, hc.good, if_neg (by simp; omega)]
  simp [Wire.decD, hr]
theorem Taken.cut {t : Taken} {c : Cmd} (hc : c.Sound) (j : Nat) (hj : j < c.bytes.length) (h : t.Of (c.bytes.take j)) : t.err = 2 := by
  obtain ⟨f1, f2, f3, f4, f5, f6, f7, f8, f9⟩ := hc.fits
  have hr := hc.rise
  have hm := rise_mem _ _ hr
  obtain ⟨_, hbl, hsm⟩ := hc
  obtain ⟨kind, client, seq, name, blob, size, sum, disks, pool, vol, blk⟩ := c
  simp only at f1 f2 f3 f4 f5 f6 f7 f8 f9 hr hm hbl hsm
  have hI : ∀ (most : Int) (x : Int), 0 ≤ x → x ≤ most → x < 2 ^ 63 → ∀ (tail l : List UInt8) (k : Int), (k = 2 ∨ (k = 0 ∧ ∃ j, j < (Wire.num x.toNat ++ tail).length ∧ l = (Wire.num x.toNat ++ tail).take j)) →
      (Wire.decI most l k).2.2 = 2 ∨ ((Wire.decI most l k).2.2 = 0 ∧ ∃ j, j < tail.length ∧ (Wire.decI most l k).2.1 = tail.take j) := fun most x h0 h1 h2 tail l k =>
    Wire.cut_step (Wire.decI most) (Wire.num x.toNat) x.toNat (fun l => Wire.decI_stuck most l 2 (by decide)) (fun rest => Wire.decI_num most _ (by omega) (by omega) rest) (fun j hj => by rw [Wire.decI_cut most _ (by omega) j hj]) tail l k
  have hU : ∀ (x : Nat), x < 2 ^ 64 → ∀ (tail l : List UInt8) (k : Int), (k = 2 ∨ (k = 0 ∧ ∃ j, j < (Wire.num x ++ tail).length ∧ l = (Wire.num x ++ tail).take j)) →
      (Wire.decU l k).2.2 = 2 ∨ ((Wire.decU l k).2.2 = 0 ∧ ∃ j, j < tail.length ∧ (Wire.decU l k).2.1 = tail.take j) := fun x h0 tail l k =>
    Wire.cut_step Wire.decU (Wire.num x) x (fun l => Wire.decU_stuck l 2 (by decide)) (fun rest => Wire.decU_num _ h0 rest) (fun j hj => by rw [Wire.decU_cut _ h0 j hj]) tail l k
  have q1 := hI 14 kind (by omega) (by omega) (by omega) _ (List.take j (bytes ⟨kind, client, seq, name, blob, size, sum, disks, pool, vol, blk⟩)) 0 (Or.inr ⟨rfl, j, hj, rfl⟩)
  obtain ⟨h1, h2, h3, h4, h5, h6, h7, h8, h9, g1, g2⟩ := h
  rw [← h1] at q1
  have q2 := hI 1073741824 client (by omega) (by omega) (by omega) _ _ _ q1
  rw [← h2] at q2
  have q3 := hI 1073741824 seq (by omega) (by omega) (by omega) _ _ _ q2
  rw [← h3] at q3
  have q4 := Wire.cut_step (Wire.decS 32) (Wire.num name.length ++ name) name (fun l => Wire.decS_stuck 32 l 2 (by decide)) (fun rest => Wire.decS_text 32 name (by omega) (by omega) rest) (fun j hj => (Wire.decS_cut 32 name (by omega) (by omega) j hj).2) _ _ _ q3
  rw [← h4] at q4
  have q5 := hU blob hbl _ _ _ q4
  rw [← h5] at q5
  have q6 := hI 4000 size (by omega) (by omega) (by omega) _ _ _ q5
  rw [← h6] at q6
  have q7 := hU sum (by omega) _ _ _ q6
  rw [← h7] at q7
  have hms : ∀ x ∈ disks.map Int.toNat, (x : Int) ≤ 5 ∧ x < 2 ^ 64 := by
    intro x hx
    obtain ⟨y, hy, rfl⟩ := List.mem_map.1 hx
    have := hm y hy
    omega
  have q8 := Wire.cut_step (Wire.decL 6 5) (Wire.num (disks.map Int.toNat).length ++ (disks.map Int.toNat).flatMap Wire.num) (disks.map Int.toNat) (fun l => Wire.decL_stuck 6 5 l 2 (by decide)) (fun rest => Wire.decL_full 6 5 _ (by simp; omega) (by simp; omega) hms rest) (fun j hj => Wire.decL_cut 6 5 _ (by simp; omega) (by simp; omega) hms j hj) _ _ _ q7
  rw [← h8] at q8
  have q9 := hI 1 pool (by omega) (by omega) (by omega) _ _ _ q8
  rw [← h9] at q9
  have q10 := hI 11 vol (by omega) (by omega) (by omega) _ _ _ q9
  rw [← g1] at q10
  have q11 := hI 1073741824 blk (by omega) (by omega) (by omega) _ _ _ q10
  rw [← g2] at q11
  rcases q11 with e | ⟨_, j', hj', _⟩
  · unfold Taken.err
    rw [e, if_neg (by simp)]
    simp [Wire.decD]
  · simp at hj'
end Cmd
end Go.Proofs.Ytafdnalanmbcpaa
