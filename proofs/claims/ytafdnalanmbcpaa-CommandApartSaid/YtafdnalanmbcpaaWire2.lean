/- What I, S, B, List and Bytes of wire's Enc answer. -/
import Derived.Test.YtafdnalanmbcpaaWire
import Derived.Lib.AppendStr
import Derived.Lib.BufferRead
set_option linter.unusedSimpArgs false
set_option linter.unusedVariables false
namespace Go.Proofs.Ytafdnalanmbcpaa
open Go.RowKit
set_option maxHeartbeats 1000000

/-- One number, given as a literal row. -/
theorem enc_U1 (x : Nat) (hx : x < 2 ^ 64) (base b : Nat) (v : Value) (l : List UInt8) (hlen : l.length + 10 ≤ 1000000000) (w : World) (hE : EncV w base b v l) :
    Calls Try.prog 26 #[.pointer (some ⟨b, 0, none⟩), .slice (some ⟨w.heap.size, 0, none⟩) 1 1] (w.alloc (.cells #[.int .u64 (x : Int)] 22)) (fun e w' => e = .returned (.pointer (some ⟨b, 0, none⟩)) ∧ EncTo w base b (l ++ Wire.num x) w') := by
  have hE2 : EncV (w.alloc (.cells #[.int .u64 (x : Int)] 22)) base b v l := ⟨hE.blk.alloc _, hE.own.alloc _, by have := hE.le; simp; omega⟩
  refine (enc_U [x] (by simpa using hx) base b v l (by simpa using hlen) _ _ hE2 (Sl.lit (cs := u64v [x]) (Blk.new _ _ _) (by show 1 ≤ maxLen; decide) rfl) ?_).mono ?_
  · intro ao n c e h0 a ha
    cases e
    cases ha
    rintro (h | ⟨_, cs, fr, h⟩)
    · have := hE.blk.lt
      simp only at h
      omega
    · have h2 := Blk.new w #[.int .u64 (x : Int)] 22
      unfold Blk at h2
      simp only at h
      rw [h2] at h
      injection h with h
      injection h with _ h
      exact absurd h (by decide)
  · rintro e w' ⟨rfl, u, hu, ho⟩
    refine ⟨rfl, u, by simpa using hu, ?_⟩
    refine Only.trans ((Only.refl (encS w base b) w).alloc _) ho ?_
    intro k hk h
    rcases h with e | ⟨e, cs, fr, hh⟩
    · exact Or.inl e
    · rw [Below.heap_alloc _ _ _ hk] at hh
      exact Or.inr ⟨e, cs, fr, hh⟩

/-- cells of whole numbers, truths, texts -/
def i64v (l : List Int) : List Value := l.map fun n => .int .i64 n
def boolv (l : List Bool) : List Value := l.map fun n => .bool n
def strv (l : List ByteArray) : List Value := l.map fun n => .string n
/-- the bytes of whole numbers, truths, texts -/
def Wire.nums (l : List Int) : List UInt8 := l.flatMap fun n => num n.toNat
def Wire.truths (l : List Bool) : List UInt8 := l.map fun n => if n then 1 else 0
def Wire.text (s : ByteArray) : List UInt8 := num s.size ++ s.data.toList
def Wire.texts (l : List ByteArray) : List UInt8 := l.flatMap text
/-- none of the rows that a call of the Enc may turn is the argument's -/
def Apart (w : World) (base b : Nat) (arg : Value) : Prop := ∀ ao n c, arg = .slice ao n c → 0 < n → ∀ a, ao = some a → ¬ encS w base b a.block

theorem Wire.nums_le (l : List Int) (h : ∀ x ∈ l, x ≤ 9223372036854775807) : (nums l).length ≤ 10 * l.length := by
  induction l with
  | nil => simp [nums]
  | cons a l ih =>
    have := ih (fun x hx => h x (by simp [hx]))
    have h2 := num_length a.toNat
    have h3 := grp_64 a.toNat (by have := h a (by simp); omega)
    simp only [nums, List.flatMap_cons, List.length_append, List.length_cons] at this ⊢
    omega

theorem enc_I (ls : List Int) (hls : ∀ x ∈ ls, -9223372036854775808 ≤ x ∧ x ≤ 9223372036854775807) (base b : Nat) (v : Value) (l : List UInt8) (hlen : l.length + 10 * ls.length ≤ 1000000000) (arg : Value) (w : World) (hE : EncV w base b v l) (ha : Sl w arg ls.length 1 (i64v ls)) (hap : Apart w base b arg) :
    Calls Try.prog 24 #[.pointer (some ⟨b, 0, none⟩), arg] w (fun e w' => e = .returned (.pointer (some ⟨b, 0, none⟩)) ∧ EncTo w base b (l ++ Wire.nums ls) w') := by
  obtain ⟨ao, cap, rfl, h1, h2, hl3, h3⟩ := ha
  have hap := hap _ _ _ rfl
  have Hap := Lib.hid hap
  have H3 := Lib.hid h3
  clear hap h3
  generalize hlen' : ls.length = len at *
  have Hlen := Lib.hid hlen'
  have hcm : cap ≤ 9223372036854775807 := by unfold maxLen at h2; omega
  clear hlen'
  (go_enter Try.func24, Try.ntmps24)
  go_wp2_with fail
  go_loopw [9] (fun i wr => ∃ j : Nat, j ≤ len ∧ i = .int .i64 (j) ∧ EncTo w base b (l ++ Wire.nums (ls.take j)) wr) (fun i _ => len - (intOf i).toNat)
  case atStart => exact ⟨0, by omega, rfl, by simpa [Wire.nums] using EncTo.refl hE⟩
  case round =>
    obtain ⟨j, hj, rfl, v1, hE1, hO1⟩ := hrel
    by_cases hlt : j < len
    · have hjl : j < ls.length := by have := Hlen.out; omega
      obtain ⟨bb, off, rfl, hb1, hcell⟩ := H3.out (by omega)
      have hc0 := hcell j (.int .i64 ls[j]) (by simp [i64v, hjl])
      have hc : wr.cell? ⟨bb, off + j, none⟩ = some (.int .i64 ls[j]) := (hO1.cell (p := ⟨bb, off + j, none⟩) hb1 (Hap.out (by omega) ⟨bb, off, none⟩ rfl)).trans hc0
      have hx64 := hls ls[j] (List.getElem_mem _)
      have hLb : (l ++ Wire.nums (ls.take j)).length + 10 ≤ 1000000000 := by
        have := Wire.nums_le (ls.take j) (fun y hy => (hls y (List.mem_of_mem_take hy)).2)
        have h2 : (ls.take j).length = j := List.length_take_of_le (by omega)
        rw [List.length_append]
        omega
      have Hst : Hid (Wire.nums (ls.take (j + 1)) = Wire.nums (ls.take j) ++ Wire.num ls[j].toNat) := by
        refine Lib.hid ?_
        rw [take_snoc' ls j hjl]
        simp only [Wire.nums, List.flatMap_append, List.flatMap_cons, List.flatMap_nil, List.append_nil]
      generalize ls[j] = x at *
      clear hcell hc0
      by_cases hx0 : 0 ≤ x
      · obtain ⟨n, rfl⟩ := Int.eq_ofNat_of_zero_le hx0
        have hU := enc_U1 n (by omega) base b v1 _ hLb _ hE1
        have HU := Lib.hid hU
        clear hU
        go_wp2_with fail
        refine HU.out.mono ?_; rintro e w1 ⟨rfl, hto⟩
        obtain ⟨v2, hE2, hO2⟩ := EncTo.trans hO1 hto
        go_wp2_with fail
        refine ⟨⟨j + 1, by omega, by go_num, v2, ?_, hO2⟩, by simp [intOf]; omega⟩
        rw [Hst.out, ← List.append_assoc]
        exact hE2
      · have hU := enc_U1 0 (by omega) base b v1 _ hLb _ hE1
        have HU := Lib.hid hU
        have hx00 : Hid (x.toNat = 0) := Lib.hid (by omega)
        clear hU
        go_wp2_with fail
        refine HU.out.mono ?_; rintro e w1 ⟨rfl, hto⟩
        obtain ⟨v2, hE2, hO2⟩ := EncTo.trans hO1 hto
        go_wp2_with fail
        refine ⟨⟨j + 1, by omega, by go_num, v2, ?_, hO2⟩, by simp [intOf]; omega⟩
        rw [Hst.out, hx00.out, ← List.append_assoc]
        exact hE2
    · obtain rfl : j = len := by omega
      have ht : ls.take j = ls := List.take_of_length_le (by have := Hlen.out; omega)
      rw [ht] at hE1
      clear ht
      go_wp2_with fail
      go_ret
      exact ⟨rfl, v1, hE1, hO1⟩

theorem Wire.num_le (n : Nat) (h : n < 2 ^ 64) : (num n).length ≤ 10 := by
  have := num_length n
  have := grp_64 n h
  omega
theorem Wire.texts_le (l : List ByteArray) (h : ∀ x ∈ l, x.size ≤ 1000000) : (texts l).length ≤ 1000010 * l.length := by
  induction l with
  | nil => simp [texts]
  | cons a l ih =>
    have := ih (fun x hx => h x (by simp [hx]))
    have h2 := num_le a.size (by have := h a (by simp); omega)
    have h3 := h a (by simp)
    have h4 : a.data.toList.length = a.size := by simp
    simp only [texts, text, List.flatMap_cons, List.length_append, List.length_cons] at this ⊢
    omega
/-- a row that has grown, stored in the Enc; no draw, no literal -/
theorem EncTo.plain {w w2 : World} {base b : Nat} {v v1 : Value} {l l' : List UInt8} (h : EncV w base b v l) (k : Only (fun k => v.ownBlock = some k) w w2)
    (ho : w2.ownsRow base 5 1 v1 l'.length (byv l')) : EncTo w base b l' (w2.setCell ⟨b, 0, none⟩ v1) := by
  have hb2 : Blk w2 b #[v] 54 := Blk.keep h.blk k h.apart
  have hne : v1.ownBlock ≠ some b := own_ne ho hb2 (by decide)
  have hlt := h.blk.lt
  have hle := h.le
  have k2 : Only (encS w base b) w w2 := k.mono (fun x _ e => own_encS h.own x e)
  refine ⟨v1, ⟨by simpa using hb2.set 0 v1, own_keep ho ((Only.refl (· = b) w2).setCell ⟨b, 0, none⟩ v1 (fun _ => rfl)) (fun g hg e => hne (e ▸ hg)), ?_⟩, k2.setCell ⟨b, 0, none⟩ v1 (fun _ => Or.inl rfl)⟩
  have := k2.size
  simp [World.setCell]
  omega

theorem enc_S (ls : List ByteArray) (hls : ∀ x ∈ ls, x.size ≤ 1000000) (base b : Nat) (v : Value) (l : List UInt8) (hlen : l.length + 1000010 * ls.length ≤ 100000000) (arg : Value) (w : World) (hE : EncV w base b v l) (ha : Sl w arg ls.length 1 (strv ls)) (hap : Apart w base b arg) :
    Calls Try.prog 25 #[.pointer (some ⟨b, 0, none⟩), arg] w (fun e w' => e = .returned (.pointer (some ⟨b, 0, none⟩)) ∧ EncTo w base b (l ++ Wire.texts ls) w') := by
  obtain ⟨ao, cap, rfl, h1, h2, hl3, h3⟩ := ha
  have hap := hap _ _ _ rfl
  have Hap := Lib.hid hap
  have H3 := Lib.hid h3
  clear hap h3
  generalize hlen' : ls.length = len at *
  have Hlen := Lib.hid hlen'
  have hcm : cap ≤ 9223372036854775807 := by unfold maxLen at h2; omega
  clear hlen'
  (go_enter Try.func25, Try.ntmps25)
  go_wp2_with fail
  go_loopw [9] (fun i wr => ∃ j : Nat, j ≤ len ∧ i = .int .i64 (j) ∧ EncTo w base b (l ++ Wire.texts (ls.take j)) wr) (fun i _ => len - (intOf i).toNat)
  case atStart => exact ⟨0, by omega, rfl, by simpa [Wire.texts] using EncTo.refl hE⟩
  case round =>
    obtain ⟨j, hj, rfl, v1, hE1, hO1⟩ := hrel
    by_cases hlt : j < len
    · have hjl : j < ls.length := by have := Hlen.out; omega
      obtain ⟨bb, off, rfl, hb1, hcell⟩ := H3.out (by omega)
      have hc0 := hcell j (.string ls[j]) (by simp [strv, hjl])
      have hc : wr.cell? ⟨bb, off + j, none⟩ = some (.string ls[j]) := (hO1.cell (p := ⟨bb, off + j, none⟩) hb1 (Hap.out (by omega) ⟨bb, off, none⟩ rfl)).trans hc0
      have hx64 := hls ls[j] (List.getElem_mem _)
      have hLb : (l ++ Wire.texts (ls.take j)).length + 1000010 ≤ 100000000 := by
        have := Wire.texts_le (ls.take j) (fun y hy => hls y (List.mem_of_mem_take hy))
        have h2 : (ls.take j).length = j := List.length_take_of_le (by omega)
        rw [List.length_append]
        omega
      have Hst : Hid (l ++ Wire.texts (ls.take (j + 1)) = (l ++ Wire.texts (ls.take j)) ++ Wire.num ls[j].size ++ ls[j].data.toList) := by
        refine Lib.hid ?_
        rw [take_snoc' ls j hjl]
        simp only [Wire.texts, Wire.text, List.flatMap_append, List.flatMap_cons, List.flatMap_nil, List.append_nil, List.append_assoc]
      generalize ls[j] = x at *
      clear hcell hc0
      generalize l ++ Wire.texts (ls.take j) = L at *
      have hU := enc_U1 x.size (by omega) base b v1 L (by omega) _ hE1
      have HU := Lib.hid hU
      clear hU
      have hn10 := Wire.num_le x.size (by omega)
      go_wp2_with fail
      refine HU.out.mono ?_; rintro e w1 ⟨rfl, hto⟩
      obtain ⟨v2, hE2, hO2⟩ := EncTo.trans hO1 hto
      generalize hL2 : L ++ Wire.num x.size = L2 at *
      have hl2 : L2.length + 1000000 ≤ 100000000 := by rw [← hL2, List.length_append]; omega
      have HL2 := Lib.hid hL2
      clear hL2
      have hc2 := hE2.blk.cell 0
      have hf2 := hE2.blk.frozen 0
      simp only [List.getElem?_toArray, List.getElem?_cons_zero] at hc2
      have hap2 := hE2.apart
      have Hbv : Hid (byv L2 ++ Lib.strCells x = byv (L2 ++ x.data.toList)) := by
        refine Lib.hid ?_
        simp [byv, Lib.strCells]
      obtain ⟨i0, hi0, hz0, hs0, hy0⟩ := ei_byte.2.2.2
      go_wp2_with (at_builtin; refine Lib.wpList_append_own_string _ rfl _ _ _ _ rfl base 5 i0 Try.underlying52 Try.underlying9 hi0 hz0 hs0 hy0 v2 L2.length (byv L2) rfl hE2.own x rfl (by unfold maxLen; omega) (by omega) hE2.le ?_; intro v' w2 ho1 hg1 _; have hk1 := (Only.refl (fun k => v2.ownBlock = some k) _).grown hg1 (fun k hk _ => hk); rw [Hbv.out] at ho1; obtain ⟨ao', cap', rfl, _, _, _, _⟩ := Sl.of_own ho1; have hb1 : Blk w2 b #[v2] 54 := Blk.keep hE2.blk hk1 hap2; have hc1 := hb1.cell 0; have hf1 := hb1.frozen 0; simp only [List.getElem?_toArray, List.getElem?_cons_zero] at hc1)
      have hmore := EncTo.plain hE2 hk1 (l' := L2 ++ x.data.toList) (by simpa using ho1)
      obtain ⟨v3, hE3, hO3⟩ := EncTo.trans hO2 hmore
      refine ⟨⟨j + 1, by omega, by go_num, v3, ?_, hO3⟩, by simp [intOf]; omega⟩
      rw [Hst.out]
      exact hE3
    · obtain rfl : j = len := by omega
      have ht : ls.take j = ls := List.take_of_length_le (by have := Hlen.out; omega)
      rw [ht] at hE1
      clear ht
      go_wp2_with fail
      go_ret
      exact ⟨rfl, v1, hE1, hO1⟩

theorem enc_Bytes (base b : Nat) (v : Value) (l : List UInt8) (w : World) (hE : EncV w base b v l) : Calls Try.prog 28 #[.pointer (some ⟨b, 0, none⟩)] w (Same (.string (bs l)) w) := by
  have hc := hE.blk.cell 0
  simp only [List.getElem?_toArray, List.getElem?_cons_zero] at hc
  have ho := hE.own
  rcases ho.2 with ⟨rfl, h0⟩ | ⟨g, cap, cur, rfl, hg, hh, _⟩
  · obtain rfl : l = [] := by simpa using h0
    (go_enter Try.func28, Try.ntmps28)
    go_wp2_with fail
    rw [Lib.run_convert_nil_bytes _ _ _ _ _ Try.underlying52 Try.underlying5 Try.underlying9]
    go_wp2_with fail
    go_ret
    exact ⟨rfl, rfl⟩
  · have hcs : ∀ j (hj : j < l.length), w.cell? ⟨g, j, none⟩ = some (.int .u8 (l[j].toNat : Int)) := by
      intro j hj
      have := ho.cells (g := g) rfl j (.int .u8 (l[j].toNat : Int)) (by simp [byv, hj])
      rwa [Addr.add_lit, Nat.zero_add] at this
    have Hcs := Lib.hid hcs
    clear hcs hh
    (go_enter Try.func28, Try.ntmps28)
    go_wp2_with fail
    rw [conv_str (e := 5) l Try.underlying52 Try.underlying5 Try.underlying9 rfl Hcs.out]
    go_wp2_with fail
    go_ret
    exact ⟨rfl, rfl⟩
end Go.Proofs.Ytafdnalanmbcpaa
