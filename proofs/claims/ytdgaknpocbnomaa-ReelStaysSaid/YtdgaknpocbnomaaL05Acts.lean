/- Acts as an argument; what stays of a volume, whatever is done. No condition. -/
import Derived.Test.YtdgaknpocbnomaaL05Plain
set_option linter.unusedSimpArgs false
set_option linter.unusedVariables false
namespace Go.Proofs.Ytdgaknpocbnomaa
open Go.RowKit
set_option maxHeartbeats 4000000
set_option maxRecDepth 100000

abbrev KAct : Kd := .fields (.next (.int .i64) (.next (.int .i64) (.next (.int .i64) (.next .str (.next (.slice (.int .i64)) (.next (.int .u8) .last))))))
/-- an act, plainly -/
structure RAct where
  k : Int
  n : Int
  m : Int
  s : ByteArray
  ch : List Int
  cv : Value
  u : Int
structure RAct.Wf (a : RAct) : Prop where
  k : -9223372036854775808 ≤ a.k ∧ a.k ≤ 9223372036854775807
  n : -9223372036854775808 ≤ a.n ∧ a.n ≤ 9223372036854775807
  m : -9223372036854775808 ≤ a.m ∧ a.m ≤ 9223372036854775807
  s : a.s.size ≤ maxLen
  ch : ∀ c ∈ a.ch, (Lit.int .i64 c).wf = true
  u : 0 ≤ a.u ∧ a.u ≤ 255
theorem wf_u8 {n : Int} (h : (Lit.int .u8 n).wf = true) : 0 ≤ n ∧ n ≤ 255 := by
  simpa [Lit.wf, IntKind.min, IntKind.max, IntKind.signed, IntKind.bits] using h
def RAct.cells (a : RAct) : List Value := [.int .i64 (a.k), .int .i64 (a.n), .int .i64 (a.m), .string a.s, a.cv, .int .u8 a.u]
theorem act_row {w : World} {v : Value} {xs : List KAct.den} (h : RdRow w KAct.size (KAct.Rd w) [v] xs) :
    ∃ (acs : List RAct) (ao : Option Addr) (cap : Nat), v = .slice ao acs.length cap ∧ acs.length ≤ cap ∧ cap ≤ maxLen ∧ (∀ a ∈ acs, a.Wf ∧ ∃ l, Sl w a.cv l 1 (a.ch.map (.int .i64)) ∧ ∃ co cc, a.cv = .slice co l cc) ∧
      (0 < acs.length → ∃ b off, ao = some ⟨b, off, none⟩ ∧ b < w.heap.size ∧ ∀ (i : Nat) (a : RAct), acs[i]? = some a → ∀ j u, a.cells[j]? = some u → w.cell? ⟨b, off + (i * 6 + j), none⟩ = some u) := by
  obtain ⟨ao, cap, h1, h2, h3, _, h5⟩ := h
  simp only [List.cons.injEq, and_true] at h1
  have hall : ∀ i, i < xs.length → ∃ a : RAct, (a.Wf ∧ ∃ l, Sl w a.cv l 1 (a.ch.map (.int .i64)) ∧ ∃ co cc, a.cv = .slice co l cc) ∧ (∀ b off, ao = some ⟨b, off, none⟩ → ∀ j u, a.cells[j]? = some u → w.cell? ⟨b, off + (i * 6 + j), none⟩ = some u) := by
    intro i hi
    obtain ⟨b, off, e, hb, he⟩ := h5 (by omega)
    obtain ⟨es, hl, hc, hr⟩ := he i xs[i] (List.getElem?_eq_getElem hi)
    obtain ⟨a0, z0, e0, _, ⟨rfl, w0⟩, a1, z1, rfl, _, ⟨rfl, w1⟩, a2, z2, rfl, _, ⟨rfl, w2⟩, a3, z3, rfl, _, ⟨rfl, w3⟩, a4, z4, rfl, _, hr4, a5, z5, rfl, _, ⟨rfl, w5⟩, rfl⟩ := hr
    have hr4' := hr4
    obtain ⟨ao4, cap4, h41, _⟩ := hr4
    subst h41
    obtain ⟨chl, hq⟩ : ∃ chl : List Int, RdRow w 1 ((Kd.int .i64).Rd w) [Value.slice ao4 (List.length xs[i].2.2.2.2.1) cap4] chl := ⟨xs[i].2.2.2.2.1, hr4'⟩
    obtain ⟨ao8, cap8, e8, q1, q2, q3⟩ := row_ints hq
    obtain ⟨rfl, hL, rfl⟩ := Value.slice.inj e8
    rw [hL] at e0
    refine ⟨⟨xs[i].1, xs[i].2.1, xs[i].2.2.1, xs[i].2.2.2.1, chl, .slice ao4 chl.length cap4, xs[i].2.2.2.2.2.1⟩, ⟨⟨wf_i64 w0, wf_i64 w1, wf_i64 w2, w3, ?_, wf_u8 w5⟩, chl.length, ?_, ao4, cap4, rfl⟩, ?_⟩
    · intro c hcm
      simp only at hcm
      obtain ⟨p, hp, rfl⟩ := List.getElem_of_mem hcm
      obtain ⟨_, _, _, _, hcc⟩ := q3 (by omega)
      exact (hcc p _ (List.getElem?_eq_getElem hp)).2
    · refine ⟨_, _, rfl, q1, q2, by simp, fun hp => ?_⟩
      obtain ⟨b', off', e', hb', hc'⟩ := q3 hp
      refine ⟨b', off', e', hb', fun j u hu => ?_⟩
      simp only [List.getElem?_map, Option.map_eq_some_iff] at hu
      obtain ⟨x, hx, rfl⟩ := hu
      exact (hc' j x hx).1
    · intro b' off' e' j u hu
      rw [e] at e'
      cases e'
      refine hc j u ?_
      rw [e0]
      exact hu
  obtain ⟨acs, hal, has⟩ := list_of_each hall
  refine ⟨acs, ao, cap, by rw [h1, hal], by omega, h3, ?_, fun hp => ?_⟩
  · intro a ha
    obtain ⟨i, hi, rfl⟩ := List.getElem_of_mem ha
    exact (has i _ (List.getElem?_eq_getElem hi)).1
  · obtain ⟨b, off, e, hb, _⟩ := h5 (by omega)
    exact ⟨b, off, e, hb, fun i a hia => (has i a hia).2 b off e⟩
/-- what ReelStays knows of its volume -/
structure St (A : List ByteArray) (n : Nat) (x : Vol) : Prop where
  lost : x.lost = false
  fail : x.fail = 0
  prot : x.prot = false
  label : x.label = ⟨#[]⟩
  er : x.er = 0
  safe : A.length ≤ x.safe
  safe2 : x.safe ≤ x.bl.length
  all : x.bl.take A.length = plainB A
  len : x.bl.length ≤ n
theorem try00 : tryR false 0 = (0, 0) := rfl
section
variable {A : List ByteArray} {n : Nat} {x : Vol}
theorem St.more (h : St A n x) {m : Nat} (k : n ≤ m) : St A m x := ⟨h.lost, h.fail, h.prot, h.label, h.er, h.safe, h.safe2, h.all, Nat.le_trans h.len k⟩
theorem St.write (h : St A n x) (k : Bk) : St A (n + 1) (x.write k).2 := by
  have h2 := h.more (Nat.le_succ n)
  have hl : A.length ≤ x.bl.length := Nat.le_trans h.safe h.safe2
  unfold Vol.write
  rw [h.lost, h.fail, try00]
  repeat' split
  all_goals first
    | exact ⟨rfl, rfl, h.prot, h.label, h.er, h.safe, h.safe2, h.all, h2.len⟩
    | (refine ⟨rfl, rfl, h.prot, h.label, h.er, h.safe, ?_, ?_, ?_⟩
       · have := h.safe2; simp only [List.length_append]; omega
       · simp only; rw [List.take_append_of_le_length hl]; exact h.all
       · have := h.len; simp only [List.length_append, List.length_singleton]; omega)
theorem St.flush (h : St A n x) : St A n x.flush.2 := by
  unfold Vol.flush
  rw [h.lost, h.fail, try00]
  repeat' split
  all_goals first
    | exact ⟨rfl, rfl, h.prot, h.label, h.er, h.safe, h.safe2, h.all, h.len⟩
    | exact ⟨rfl, rfl, h.prot, h.label, h.er, Nat.le_trans h.safe h.safe2, Nat.le_refl _, h.all, h.len⟩
theorem St.read (h : St A n x) : St A n x.read.2 := by
  unfold Vol.read
  rw [h.lost, h.fail, try00]
  repeat' split
  all_goals exact ⟨rfl, rfl, h.prot, h.label, h.er, h.safe, h.safe2, h.all, h.len⟩
theorem St.seek (h : St A n x) (k : Int) : St A n (x.seek k).2 := by
  unfold Vol.seek
  rw [h.lost, h.fail, try00]
  repeat' split
  all_goals exact ⟨rfl, rfl, h.prot, h.label, h.er, h.safe, h.safe2, h.all, h.len⟩
theorem St.skip (h : St A n x) : St A n x.skip.2 := by
  unfold Vol.skip
  rw [h.lost, h.fail, try00]
  repeat' split
  all_goals exact ⟨rfl, rfl, h.prot, h.label, h.er, h.safe, h.safe2, h.all, h.len⟩
theorem St.notTorn (h : St A n x) {i : Nat} (hi : i < A.length) : x.bl[i]? = some ⟨A[i], false, false⟩ := by
  have e := plainB_get A i
  rw [← h.all, List.getElem?_take, if_pos hi, List.getElem?_eq_getElem hi] at e
  exact e
theorem St.trim (h : St A n x) : St A n x.trim.2 := by
  unfold Vol.trim
  rw [h.lost, h.fail, try00]
  split
  · exact ⟨rfl, rfl, h.prot, h.label, h.er, h.safe, h.safe2, h.all, h.len⟩
  split
  · exact ⟨rfl, rfl, h.prot, h.label, h.er, h.safe, h.safe2, h.all, h.len⟩
  rename_i ht
  split
  · exact ⟨rfl, rfl, h.prot, h.label, h.er, h.safe, h.safe2, h.all, h.len⟩
  have hl : A.length ≤ x.bl.length := Nat.le_trans h.safe h.safe2
  have hlt : A.length ≤ x.bl.length - 1 := by
    rcases Nat.lt_or_ge A.length x.bl.length with c | c
    · omega
    · rcases Nat.eq_zero_or_pos A.length with z | z
      · omega
      · exfalso
        have e : x.bl.length = (A.length - 1) + 1 := by omega
        have g := lastTorn_get x.bl (A.length - 1) e
        have nt := h.notTorn (i := A.length - 1) (by omega)
        rw [List.getElem?_eq_getElem (by omega)] at nt
        injection nt with nt
        rw [nt] at g
        exact ht g
  refine ⟨rfl, rfl, h.prot, h.label, h.er, ?_, ?_, ?_, ?_⟩
  · have := h.safe; simp only; omega
  · simp only [List.length_take]; omega
  · simp only [List.take_take]
    rw [Nat.min_eq_left hlt]
    exact h.all
  · have := h.len; simp only [List.length_take]; omega
theorem St.crash (h : St A n x) (ch : List Int) : St A n (x.crash ch) := by
  have hl : A.length ≤ x.bl.length := Nat.le_trans h.safe h.safe2
  have key : ∀ k, x.safe ≤ k → A.length ≤ (x.bl.take k).length ∧ (x.bl.take k).take A.length = plainB A ∧ (x.bl.take k).length ≤ n := by
    intro k hk
    have h1 := h.safe
    have h2 := h.len
    refine ⟨by rw [List.length_take]; omega, ?_, by rw [List.length_take]; omega⟩
    rw [List.take_take, Nat.min_eq_left (by omega)]
    exact h.all
  have hout : A.length ≤ (crashOut x ch).length ∧ (crashOut x ch).take A.length = plainB A ∧ (crashOut x ch).length ≤ n := by
    obtain ⟨k, hk⟩ : ∃ k, k = x.safe + (pickR ch 0 (((x.bl.length - x.safe : Nat) : Int) + 1)).toNat := ⟨_, rfl⟩
    have h3 := key k (by omega)
    unfold crashOut
    rw [← hk]
    rcases hb : x.bl[k]? with _ | b
    · exact h3
    · have hkl := (List.getElem?_eq_some_iff.1 hb).1
      simp only
      split
      · obtain ⟨p1, p2, p3⟩ := h3
        refine ⟨by rw [List.length_append]; omega, by rw [List.take_append_of_le_length p1]; exact p2, ?_⟩
        have := h.len
        rw [List.length_append, List.length_take, List.length_singleton]
        omega
      · exact h3
  exact ⟨h.lost, h.fail, h.prot, h.label, h.er, hout.1, Nat.le_refl _, hout.2.1, hout.2.2⟩
theorem St.seen (h : St A n x) {j : Nat} (k : Seen x.bl j) : A.length ≤ j := by
  rcases Nat.lt_or_ge j A.length with c | c
  · have := k.2.2 _ (h.notTorn c)
    cases this
  · exact c
end
end Go.Proofs.Ytdgaknpocbnomaa
