/- What an argument reads as: numbers, truths, texts, slices, structs of these, nested in any way. No condition. -/
import Derived.Test.YtloimgmifalpnaaRows
import Derived.Test.YtloimgmifalpnaaBase
import Derived.ProofKit
import Derived.OpenShut
import Derived.Deep.Slices
namespace Go.Proofs.Ytloimgmifalpnaa
open Go.RowKit

/-- The make of an argument. 'fields': a struct of what follows, 'one' by 'one'. -/
inductive Kd where
  | int (k : IntKind) | bool | str | slice (e : Kd) | fields (f : Kd) | last | next (a b : Kd)

def Kd.size : Kd → Nat
  | .int _ => 1 | .bool => 1 | .str => 1 | .slice _ => 1
  | .fields f => f.size | .last => 0 | .next a b => a.size + b.size

/-- What it reads as. -/
def Kd.den : Kd → Type
  | .int _ => Int | .bool => Bool | .str => ByteArray | .slice e => List e.den
  | .fields f => f.den | .last => Unit | .next a b => a.den × b.den

mutual
def Kd.isB (P : Program) : Kd → TypeId → Bool
  | .int k, t => match P.underlying t with | some (.int k') => decide (k' = k) && P.cellsOf t == 1 | _ => false
  | .bool, t => match P.underlying t with | some .bool => P.cellsOf t == 1 | _ => false
  | .str, t => match P.underlying t with | some .string => P.cellsOf t == 1 | _ => false
  | .slice e, t => match P.underlying t with | some (.slice te) => P.cellsOf t == 1 && P.cellsOf te == e.size && decide (0 < e.size) && e.isB P te | _ => false
  | .fields f, t => match P.underlying t with | some (.struct fs) => P.cellsOf t == f.size && f.isF P fs.toList 0 | _ => false
  | .last, _ => false
  | .next _ _, _ => false
def Kd.isF (P : Program) : Kd → List Field → Nat → Bool
  | .last, [], _ => true
  | .next a b, f :: fs, o => f.offset == o && P.cellsOf f.type == a.size && a.isB P f.type && b.isF P fs (o + a.size)
  | _, _, _ => false
end

/-- A slice's value that reads as xs; 'sz': how many cells an element has; R: that cells read as an element. -/
def RdRow {α : Type} (w : World) (sz : Nat) (R : List Value → α → Prop) (cs : List Value) (xs : List α) : Prop :=
  ∃ ao cap, cs = [.slice ao xs.length cap] ∧ xs.length ≤ cap ∧ cap ≤ maxLen ∧ (ao = none → cap = 0) ∧
    (0 < xs.length → ∃ b off, ao = some ⟨b, off, none⟩ ∧ b < w.heap.size ∧ ∀ i x, xs[i]? = some x →
      ∃ es, es.length = sz ∧ (∀ j v, es[j]? = some v → w.cell? ⟨b, off + (i * sz + j), none⟩ = some v) ∧ R es x)

/-- Cells that read as x. -/
def Kd.Rd (w : World) : (K : Kd) → List Value → K.den → Prop
  | .int k, cs, n => cs = [.int k n] ∧ (Lit.int k n).wf = true
  | .bool, cs, b => cs = [.bool b]
  | .str, cs, s => cs = [.string s] ∧ ByteArray.size s ≤ maxLen
  | .slice e, cs, xs => RdRow w e.size (e.Rd w) cs xs
  | .fields f, cs, x => f.Rd w cs x
  | .last, cs, _ => cs = []
  | .next a b, cs, x => ∃ c d, cs = c ++ d ∧ List.length c = a.size ∧ a.Rd w c (Prod.fst x) ∧ b.Rd w d (Prod.snd x)

theorem list_of_each {α : Type} {n : Nat} {p : Nat → α → Prop} (h : ∀ i, i < n → ∃ x, p i x) : ∃ xs : List α, xs.length = n ∧ ∀ i x, xs[i]? = some x → p i x := by
  induction n with
  | zero => exact ⟨[], rfl, fun i x hx => by simp at hx⟩
  | succ n ih =>
    obtain ⟨xs, hl, hx⟩ := ih (fun i hi => h i (by omega))
    obtain ⟨y, hy⟩ := h n (by omega)
    refine ⟨xs ++ [y], by simp [hl], fun i x hi => ?_⟩
    by_cases e : i < n
    · rw [List.getElem?_append_left (by omega)] at hi
      exact hx i x hi
    · by_cases e2 : i = n
      · subst e2
        rw [List.getElem?_append_right (by omega), hl] at hi
        simp at hi
        exact hi ▸ hy
      · rw [List.getElem?_eq_none (by simp [hl]; omega)] at hi
        cases hi

section
variable {H : Type} {enc : TypeId × Value → H} {P : Program} {w : World}

theorem rd_both (K : Kd) :
    (∀ (fuel : Nat) (t : TypeId) (cs : List Value) (x : DataW H × List MemPlace), K.isB P t = true → DataW.trod enc P w 0 (fun _ => true) true fuel t cs = some x → ∃ d, K.Rd w cs d) ∧
    (∀ (n : Nat) (fs : List Field) (o : Nat) (cs : List Value), K.isF P fs o = true → cs.length = o + K.size → (∀ f ∈ fs, ∃ y : DataW H × List MemPlace, DataW.trod enc P w 0 (fun _ => true) true n f.type ((cs.drop f.offset).take (P.cellsOf f.type)) = some y) → ∃ d, K.Rd w (cs.drop o) d) := by
  induction K with
  | int k =>
    refine ⟨fun fuel t cs x hB h => ?_, fun n fs o cs hF => by simp [Kd.isF] at hF⟩
    unfold Kd.isB at hB
    split at hB
    · rename_i k' hu
      simp at hB
      obtain ⟨n, rfl, _, hw⟩ := DataW.trod_int (hB.1 ▸ hu) h
      exact ⟨n, rfl, hw⟩
    · cases hB
  | bool =>
    refine ⟨fun fuel t cs x hB h => ?_, fun n fs o cs hF => by simp [Kd.isF] at hF⟩
    unfold Kd.isB at hB
    split at hB
    · rename_i hu
      obtain ⟨b, rfl, _⟩ := DataW.trod_bool hu h
      exact ⟨b, rfl⟩
    · cases hB
  | str =>
    refine ⟨fun fuel t cs x hB h => ?_, fun n fs o cs hF => by simp [Kd.isF] at hF⟩
    unfold Kd.isB at hB
    split at hB
    · rename_i hu
      obtain ⟨s, rfl, _, hs⟩ := DataW.trod_string hu h
      exact ⟨s, rfl, hs⟩
    · cases hB
  | slice e ih =>
    refine ⟨fun fuel t cs x hB h => ?_, fun n fs o cs hF => by simp [Kd.isF] at hF⟩
    unfold Kd.isB at hB
    split at hB
    · rename_i te hu
      simp only [Bool.and_eq_true, beq_iff_eq, decide_eq_true_eq] at hB
      obtain ⟨⟨⟨_, hsz⟩, hpos⟩, hB⟩ := hB
      rcases Deep.open_slice hu h with ⟨rfl, _⟩ | ⟨a, len, cap, m, n, D, Pl, rfl, _, hl, hm, rfl, _, hel⟩
      · exact ⟨([] : List e.den), none, 0, rfl, Nat.le_refl _, by decide, fun _ => rfl, fun hh => by simp at hh⟩
      · have hall : ∀ i, i < len → ∃ d : e.den, ∃ es, es.length = e.size ∧ (∀ j v, es[j]? = some v → w.cell? (a.add (i * e.size + j)) = some v) ∧ e.Rd w es d := by
          intro i hi
          obtain ⟨cs', h1, h2⟩ := hel i (by omega)
          obtain ⟨d, hd⟩ := ih.1 _ _ _ _ hB h2
          rw [hsz] at h1
          obtain ⟨_, c1, c2⟩ := World.cells?_some h1
          refine ⟨d, cs', c1, ?_, hd⟩
          intro j v hv
          have hj : j < e.size := by rw [← c1]; exact (List.getElem?_eq_some_iff.1 hv).1
          rw [← Deep.add_add, c2 j hj, hv]
        obtain ⟨xs, rfl, hxs⟩ := list_of_each hall
        refine ⟨(xs : List e.den), some a, m, rfl, hl, hm, (fun e => by cases e), fun hp => ?_⟩
        obtain ⟨_, es0, hl0, hc0, _⟩ := hall 0 hp
        have hc00 := hc0 0 es0[0] (by simp)
        obtain ⟨b, off, spot⟩ := a
        have hspot : spot = none := by simpa [Addr.add] using World.cell?_spot hc00
        subst hspot
        refine ⟨b, off, rfl, ?_, fun i x hx => ?_⟩
        · by_cases hbz : b < w.heap.size
          · exact hbz
          · simp [World.cell?, Addr.add, Array.getElem?_eq_none (by omega : w.heap.size ≤ b)] at hc00
        · obtain ⟨es, e1, e2, e3⟩ := hxs i x hx
          refine ⟨es, e1, fun j v hv => ?_, e3⟩
          have := e2 j v hv
          rwa [Addr.add_lit] at this
    · cases hB
  | fields f ih =>
    refine ⟨fun fuel t cs x hB h => ?_, fun n fs o cs hF => by simp [Kd.isF] at hF⟩
    unfold Kd.isB at hB
    split at hB
    · rename_i fs hu
      simp only [Bool.and_eq_true, beq_iff_eq] at hB
      obtain ⟨hsz, hF⟩ := hB
      obtain ⟨xs, n, rfl, rfl, hl, hxl, hx⟩ := DataW.trod_struct hu h
      obtain ⟨d, hd⟩ := ih.2 n fs.toList 0 cs hF (by rw [hl, hsz]; omega) (by
        intro fd hfd
        obtain ⟨i, hi, rfl⟩ := List.getElem_of_mem hfd
        simp at hi
        have := hx i fs[i] (by simp [hi])
        rw [List.getElem?_eq_getElem (by omega)] at this
        exact ⟨_, this⟩)
      exact ⟨d, by rw [List.drop_zero] at hd; exact hd⟩
    · cases hB
  | last =>
    refine ⟨fun fuel t cs x hB => by simp [Kd.isB] at hB, fun n fs o cs hF hl _ => ⟨(), ?_⟩⟩
    simp only [Kd.size] at hl
    show cs.drop o = []
    simp; omega
  | next a b iha ihb =>
    refine ⟨fun fuel t cs x hB => by simp [Kd.isB] at hB, fun n fs o cs hF hl hy => ?_⟩
    cases fs with
    | nil => simp [Kd.isF] at hF
    | cons f fs =>
      simp only [Kd.isF, Bool.and_eq_true, beq_iff_eq] at hF
      obtain ⟨⟨⟨ho, hc⟩, hA⟩, hR⟩ := hF
      simp only [Kd.size] at hl
      obtain ⟨y, hy0⟩ := hy f (by simp)
      obtain ⟨d1, h1⟩ := iha.1 _ _ _ _ hA hy0
      obtain ⟨d2, h2⟩ := ihb.2 n fs (o + a.size) cs hR (by omega) (fun g hg => hy g (by simp [hg]))
      rw [ho, hc] at h1
      refine ⟨(d1, d2), (cs.drop o).take a.size, cs.drop (o + a.size), ?_, by simp; omega, h1, h2⟩
      rw [← List.drop_drop, List.take_append_drop]

theorem rd_of_trod (K : Kd) {t : TypeId} {v : Value} {d : DataW H} {ps : List MemPlace} (hB : K.isB P t = true) (h : DataW.Trod enc P w 0 (fun _ => true) true t v d ps) : ∃ x, K.Rd w v.cells.toList x := by
  obtain ⟨fuel, hf⟩ := h
  exact (rd_both (enc := enc) (P := P) (w := w) K).1 fuel t _ _ hB hf
end

/-- An argument that reads as x. -/
def Kd.Arg (w : World) : (K : Kd) → Value → K.den → Prop
  | .int k, v, n => v = .int k n ∧ (Lit.int k n).wf = true
  | .bool, v, b => v = .bool b
  | .str, v, s => v = .string s ∧ ByteArray.size s ≤ maxLen
  | .slice e, v, xs => RdRow w e.size (e.Rd w) [v] xs
  | .fields f, v, x => ∃ cs, v = .agg cs ∧ f.Rd w cs.toList x
  | .last, _, _ => False
  | .next _ _, _, _ => False

open Go.WideShapes in
theorem arg_open {H : Type} {enc : TypeId × Value → H} {P : Program} {w : World} {r : Reach} {b0 : Nat} (K : Kd) {t : TypeId} {v : Value} {d : DataW H} {ps : List MemPlace}
    (h : DataW.Trod enc P w 0 (fun _ => true) true t v d ps) (hval : Value.okWide P w r b0 t v) (hB : K.isB P t = true) : ∃ x, K.Arg w v x := by
  obtain ⟨x, hx⟩ := rd_of_trod K hB h
  cases K with
  | int k =>
    unfold Kd.isB at hB
    split at hB
    · rename_i k' hu
      simp only [Bool.and_eq_true, decide_eq_true_eq] at hB
      obtain ⟨n, rfl⟩ := okWide_int (hB.1 ▸ hu) hval
      obtain ⟨h1, h2⟩ := hx
      simp [Value.cells] at h1
      exact ⟨x, by rw [h1], h2⟩
    · cases hB
  | bool =>
    unfold Kd.isB at hB
    split at hB
    · rename_i hu
      obtain ⟨b, rfl⟩ := okWide_bool hu hval
      have h1 : (Value.bool b).cells.toList = [.bool x] := hx
      simp [Value.cells] at h1
      exact ⟨x, by rw [h1]; rfl⟩
    · cases hB
  | str =>
    unfold Kd.isB at hB
    split at hB
    · rename_i hu
      obtain ⟨s, rfl⟩ := okWide_string hu hval
      obtain ⟨h1, h2⟩ := hx
      simp [Value.cells] at h1
      exact ⟨x, by rw [h1], h2⟩
    · cases hB
  | slice e =>
    unfold Kd.isB at hB
    split at hB
    · rename_i te hu
      obtain ⟨a, len, cap, rfl⟩ := okWide_slice hu hval
      exact ⟨x, hx⟩
    · cases hB
  | fields f =>
    unfold Kd.isB at hB
    split at hB
    · rename_i fs hu
      obtain ⟨cs, rfl, _⟩ := okWide_struct hu hval
      exact ⟨x, cs, rfl, hx⟩
    · cases hB
  | last => simp [Kd.isB] at hB
  | next a b => simp [Kd.isB] at hB

/-- A slice of numbers. -/
theorem row_ints {w : World} {k : IntKind} {v : Value} {xs : List Int} (h : RdRow w 1 ((Kd.int k).Rd w) [v] xs) :
    ∃ ao cap, v = .slice ao xs.length cap ∧ xs.length ≤ cap ∧ cap ≤ maxLen ∧ (0 < xs.length → ∃ b off, ao = some ⟨b, off, none⟩ ∧ b < w.heap.size ∧
      ∀ (i : Nat) (x : Int), xs[i]? = some x → w.cell? ⟨b, off + i, none⟩ = some (.int k x) ∧ (Lit.int k x).wf = true) := by
  obtain ⟨ao, cap, h1, h2, h3, _, h5⟩ := h
  simp only [List.cons.injEq, and_true] at h1
  refine ⟨ao, cap, h1, h2, h3, fun hp => ?_⟩
  obtain ⟨b, off, e, hb, he⟩ := h5 hp
  refine ⟨b, off, e, hb, fun i x hx => ?_⟩
  obtain ⟨es, _, hc, h6, h7⟩ := he i x hx
  subst h6
  exact ⟨by simpa using hc 0 _ rfl, h7⟩

/-- A slice of texts. -/
theorem row_strs {w : World} {v : Value} {xs : List ByteArray} (h : RdRow w 1 (Kd.str.Rd w) [v] xs) :
    ∃ ao cap, v = .slice ao xs.length cap ∧ xs.length ≤ cap ∧ cap ≤ maxLen ∧ (0 < xs.length → ∃ b off, ao = some ⟨b, off, none⟩ ∧ b < w.heap.size ∧
      ∀ (i : Nat) (x : ByteArray), xs[i]? = some x → w.cell? ⟨b, off + i, none⟩ = some (.string x) ∧ x.size ≤ maxLen) := by
  obtain ⟨ao, cap, h1, h2, h3, _, h5⟩ := h
  simp only [List.cons.injEq, and_true] at h1
  refine ⟨ao, cap, h1, h2, h3, fun hp => ?_⟩
  obtain ⟨b, off, e, hb, he⟩ := h5 hp
  refine ⟨b, off, e, hb, fun i x hx => ?_⟩
  obtain ⟨es, _, hc, h6, h7⟩ := he i x hx
  subst h6
  exact ⟨by simpa using hc 0 _ rfl, h7⟩
end Go.Proofs.Ytloimgmifalpnaa
