/- Dec of wire, as far as the statements' word 'awake' goes; List of Enc; awake. -/
import Derived.Test.YtafdnalanmbcpaaWire2
set_option linter.unusedSimpArgs false
set_option linter.unusedVariables false
namespace Go.Proofs.Ytafdnalanmbcpaa
open Go.RowKit
set_option maxHeartbeats 1000000

theorem dec_byte_ok (c : UInt8) (rest : List UInt8) (hr : rest.length ≤ 1000000) (b : Nat) (w : World) (h : Blk w b #[.string (bs (c :: rest)), .int .i64 (0)] 61) :
    Calls Try.prog 29 #[.pointer (some ⟨b, 0, none⟩)] w (fun e w' => e = .returned (.int .u8 (c.toNat : Int)) ∧ w' = w.setCell ⟨b, 0, none⟩ (.string (bs rest))) := by
  have hc0 := h.cell 0
  have hc1 := h.cell 1
  have hf0 := h.frozen 0
  have hsz : (bs (c :: rest)).size = rest.length + 1 := rfl
  have hne : (bs (c :: rest)).toList.isEmpty = false := by rw [bs_list]; rfl
  have hget : (bs (c :: rest)).data[0]? = some c := rfl
  have hg0 : ∀ h : 0 < (bs (c :: rest)).size, (bs (c :: rest))[0]'h = c := fun _ => rfl
  have hex : (bs (c :: rest)).extract 1 (rest.length + 1) = bs rest := by rw [extract_bs]; simp [bs_toList]
  simp only [List.getElem?_toArray, List.getElem?_cons_zero, List.getElem?_cons_succ] at hc0 hc1
  have Hex := Lib.hid hex
  clear hex
  generalize bs (c :: rest) = s at *
  (go_enter Try.func29, Try.ntmps29)
  go_wp2_with fail
  go_ret
  refine ⟨?_, by rw [Hex.out]⟩
  have hg1 := hg0 (by omega)
  simp
  first | (rw [hg1]) | (exact congrArg _ hg1) | trace_state

theorem dec_fail (x : Value) (k : Int) (b : Nat) (w : World) (h : Blk w b #[x, .int .i64 (0)] 61) :
    Calls Try.prog 22 #[.pointer (some ⟨b, 0, none⟩), .int .i64 (k)] w (fun e w' => e = .returned (.tuple #[]) ∧ w' = w.setCell ⟨b, 1, none⟩ (.int .i64 (k))) := by
  have hc1 := h.cell 1
  have hf1 := h.frozen 1
  simp only [List.getElem?_toArray, List.getElem?_cons_zero, List.getElem?_cons_succ] at hc1
  (go_enter Try.func22, Try.ntmps22)
  go_wp2_with fail
  go_end0
  exact ⟨rfl, rfl⟩

theorem dec_U_bad (rest : List UInt8) (hr : rest.length ≤ 1000000) (b : Nat) (w : World) (h : Blk w b #[.string (bs (128 :: rest)), .int .i64 (0)] 61) :
    Calls Try.prog 20 #[.pointer (some ⟨b, 0, none⟩)] w (fun e w' => e = .returned (.int .u64 0) ∧ w' = (w.setCell ⟨b, 0, none⟩ (.string (bs rest))).setCell ⟨b, 1, none⟩ (.int .i64 (3))) := by
  have hB := dec_byte_ok 128 rest hr b w h
  have h2 : Blk (w.setCell ⟨b, 0, none⟩ (.string (bs rest))) b #[.string (bs rest), .int .i64 (0)] 61 := by simpa using h.set 0 (.string (bs rest))
  have hF := dec_fail _ 3 b _ h2
  have h3 : Blk ((w.setCell ⟨b, 0, none⟩ (.string (bs rest))).setCell ⟨b, 1, none⟩ (.int .i64 (3))) b #[.string (bs rest), .int .i64 (3)] 61 := by simpa using h2.set 1 (.int .i64 (3))
  have hc1 := h3.cell 1
  simp only [List.getElem?_toArray, List.getElem?_cons_zero, List.getElem?_cons_succ] at hc1
  have HB := Lib.hid hB
  have HF := Lib.hid hF
  clear hB hF h2 h3
  (go_enter Try.func20, Try.ntmps20)
  go_wp2_with fail
  go_loopw [3, 4] (fun v i wr => v = .int .u64 0 ∧ i = .int .i64 (0) ∧ wr = w) (fun _ _ _ => 0)
  case atStart => exact ⟨rfl, rfl, rfl⟩
  case round =>
    obtain ⟨rfl, rfl, rfl⟩ := hrel
    go_wp2_with fail
    refine HB.out.mono ?_; rintro e w1 ⟨rfl, rfl⟩
    go_wp2_with fail
    refine HF.out.mono ?_; rintro e w1 ⟨rfl, rfl⟩
    go_wp2_with fail
    go_ret
    exact ⟨rfl, rfl⟩

theorem apart_keep {w w' : World} {base b : Nat} {arg : Value} (h : Apart w base b arg) (k : Only (encS w base b) w w') (hab : ∀ ao n c, arg = .slice ao n c → 0 < n → ∀ a, ao = some a → a.block < w.heap.size) : Apart w' base b arg := by
  intro ao n c e h0 a ha hh
  have hlt := hab ao n c e h0 a ha
  refine h ao n c e h0 a ha ?_
  rcases hh with e2 | ⟨e2, cs, fr, hh⟩
  · exact Or.inl e2
  · by_cases c : encS w base b a.block
    · exact c
    · rw [k.block _ hlt c] at hh
      exact Or.inr ⟨e2, cs, fr, hh⟩
/-- A literal row is apart from the Enc. -/
theorem apart_lit {w : World} {base b : Nat} {cs : Array Value} {T : TypeId} {n c : Nat} (hb : b < w.heap.size) (hT : T ≠ 5) : Apart (w.alloc (.cells cs T)) base b (.slice (some ⟨w.heap.size, 0, none⟩) n c) := by
  intro ao n c e h0 a ha
  cases e
  cases ha
  rintro (h | ⟨_, cs', fr, h⟩)
  · simp only at h
    omega
  · have h2 := Blk.new w cs T
    unfold Blk at h2
    simp only at h
    rw [h2] at h
    injection h with h
    injection h with _ h
    exact hT h
theorem EncV.alloc {w : World} {base b : Nat} {v : Value} {l : List UInt8} (h : EncV w base b v l) (o : Obj) : EncV (w.alloc o) base b v l := ⟨h.blk.alloc _, h.own.alloc _, by have := h.le; simp; omega⟩
theorem EncTo.unalloc {w w' : World} {base b : Nat} {l : List UInt8} {o : Obj} (h : EncTo (w.alloc o) base b l w') : EncTo w base b l w' := by
  obtain ⟨u, hu, ho⟩ := h
  refine ⟨u, hu, Only.trans ((Only.refl (encS w base b) w).alloc _) ho ?_⟩
  intro k hk h
  rcases h with e | ⟨e, cs, fr, hh⟩
  · exact Or.inl e
  · rw [Below.heap_alloc _ _ _ hk] at hh
    exact Or.inr ⟨e, cs, fr, hh⟩

theorem enc_List (ls : List Int) (hls : ∀ x ∈ ls, -9223372036854775808 ≤ x ∧ x ≤ 9223372036854775807) (base b : Nat) (v : Value) (l : List UInt8) (hlen : l.length + 10 * ls.length + 10 ≤ 1000000000) (arg : Value) (w : World) (hE : EncV w base b v l) (ha : Sl w arg ls.length 1 (i64v ls)) (hap : Apart w base b arg)
    (hab : ∀ ao n c, arg = .slice ao n c → 0 < n → ∀ a, ao = some a → a.block < w.heap.size) :
    Calls Try.prog 27 #[.pointer (some ⟨b, 0, none⟩), arg] w (fun e w' => e = .returned (.pointer (some ⟨b, 0, none⟩)) ∧ EncTo w base b (l ++ Wire.num ls.length ++ Wire.nums ls) w') := by
  have hI := enc_I [(ls.length : Int)] (by simp; omega) base b v l (by simp; omega) _ (w.alloc (.cells #[.int .i64 ((ls.length : Nat))] 3)) (hE.alloc _) (Sl.lit (cs := i64v [(ls.length : Int)]) (Blk.new _ _ _) (by show 1 ≤ maxLen; decide) rfl) (apart_lit hE.blk.lt (by decide))
  have HI := Lib.hid hI
  have HS := Lib.hid ha
  have HA := Lib.hid hap
  have HB := Lib.hid hab
  have hn1 : (Wire.num ls.length).length ≤ 10 := Wire.num_le _ (by omega)
  obtain ⟨ao, cap, rfl, h1, h2, _, _⟩ := ha
  have hcm : cap ≤ 9223372036854775807 := by unfold maxLen at h2; omega
  clear hap hab hI
  generalize hlen' : ls.length = len at *
  have Hlen := Lib.hid hlen'
  clear hlen'
  (go_enter Try.func27, Try.ntmps27)
  go_wp2_with fail
  refine HI.out.mono ?_; rintro e w1 ⟨rfl, hto⟩
  obtain ⟨v1, hE1, hO1⟩ := hto.unalloc
  have hsl : Sl w1 (.slice ao len cap) ls.length 1 (i64v ls) := by
    obtain ⟨ao', cap', e, q2, q3, q4, q5⟩ := HS.out
    cases e
    rw [Hlen.out]
    refine ⟨ao, cap, rfl, q2, q3, q4, fun hp => ?_⟩
    obtain ⟨bb, off, e, hb, hc⟩ := q5 hp
    refine ⟨bb, off, e, Nat.lt_of_lt_of_le hb hO1.size, fun j u hu => ?_⟩
    exact (hO1.cell (p := ⟨bb, off + j, none⟩) hb (HA.out _ _ _ rfl hp ⟨bb, off, none⟩ e)).trans (hc j u hu)
  have hI2 := enc_I ls hls base b v1 _ (by have := Hlen.out; simp [Wire.nums]; omega) _ w1 hE1 hsl (apart_keep HA.out hO1 HB.out)
  have HI2 := Lib.hid hI2
  clear hI2 hsl
  go_wp2_with fail
  refine HI2.out.mono ?_; rintro e w2 ⟨rfl, hto2⟩
  go_wp2_with fail
  go_ret
  refine ⟨rfl, ?_⟩
  have := EncTo.trans hO1 hto2
  simpa [Wire.nums] using this
end Go.Proofs.Ytafdnalanmbcpaa
