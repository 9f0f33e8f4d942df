/- Enc's Bytes, and small words of a law on wire. No condition. -/
import Derived.Test.YtloimgmifalpnaaWire
import Derived.Lib.AppendStr
import Derived.Lib.BufferRead
set_option linter.unusedSimpArgs false
set_option linter.unusedVariables false
namespace Go.Proofs.Ytloimgmifalpnaa
open Go.RowKit
set_option maxHeartbeats 2000000
set_option maxRecDepth 100000

/-- an argument that stands apart from the Enc -/
def Apart (w : World) (base b : Nat) (arg : Value) : Prop := ∀ ao n c, arg = .slice ao n c → 0 < n → ∀ a, ao = some a → ¬ encS w base b a.block
theorem apart_keep {w w' : World} {base b : Nat} {arg : Value} (h : Apart w base b arg) (k : Only (encS w base b) w w') (hab : ∀ ao n c, arg = .slice ao n c → 0 < n → ∀ a, ao = some a → a.block < w.heap.size) : Apart w' base b arg := by
  intro ao n c e h0 a ha hh
  have hlt := hab ao n c e h0 a ha
  refine h ao n c e h0 a ha ?_
  rcases hh with e2 | ⟨e2, cs, fr, hh⟩
  · exact Or.inl e2
  · by_cases c : encS w base b a.block
    · exact c
    · rw [k.block _ hlt c] at hh
      exact Or.inr ⟨e2, cs, fr, hh⟩
/-- A literal row is apart from the Enc. -/
theorem apart_lit {w : World} {base b : Nat} {cs : Array Value} {T : TypeId} {n c : Nat} (hb : b < w.heap.size) (hT : T ≠ 5) : Apart (w.alloc (.cells cs T)) base b (.slice (some ⟨w.heap.size, 0, none⟩) n c) := by
  intro ao n c e h0 a ha
  cases e
  cases ha
  rintro (h | ⟨_, cs', fr, h⟩)
  · simp only at h
    omega
  · have h2 := Blk.new w cs T
    unfold Blk at h2
    simp only at h
    rw [h2] at h
    injection h with h
    injection h with _ h
    exact hT h
theorem EncV.alloc {w : World} {base b : Nat} {v : Value} {l : List UInt8} (h : EncV w base b v l) (o : Obj) : EncV (w.alloc o) base b v l := ⟨h.blk.alloc _, h.own.alloc _, by have := h.le; simp; omega⟩
theorem EncTo.unalloc {w w' : World} {base b : Nat} {l : List UInt8} {o : Obj} (h : EncTo (w.alloc o) base b l w') : EncTo w base b l w' := by
  obtain ⟨u, hu, ho⟩ := h
  refine ⟨u, hu, Only.trans ((Only.refl (encS w base b) w).alloc _) ho ?_⟩
  intro k hk h
  rcases h with e | ⟨e, cs, fr, hh⟩
  · exact Or.inl e
  · rw [Below.heap_alloc _ _ _ hk] at hh
    exact Or.inr ⟨e, cs, fr, hh⟩

theorem enc_Bytes (base b : Nat) (v : Value) (l : List UInt8) (w : World) (hE : EncV w base b v l) : Calls Try.prog 12 #[.pointer (some ⟨b, 0, none⟩)] w (Same (.string (bs l)) w) := by
  have hc := hE.blk.cell 0
  simp only [List.getElem?_toArray, List.getElem?_cons_zero] at hc
  have ho := hE.own
  rcases ho.2 with ⟨rfl, h0⟩ | ⟨g, cap, cur, rfl, hg, hh, _⟩
  · obtain rfl : l = [] := by simpa using h0
    (go_enter Try.func12, Try.ntmps12)
    go_wp2_with fail
    rw [Lib.run_convert_nil_bytes _ _ _ _ _ Try.underlying44 Try.underlying5 Try.underlying9]
    go_wp2_with fail
    go_ret
    exact ⟨rfl, rfl⟩
  · have hcs : ∀ j (hj : j < l.length), w.cell? ⟨g, j, none⟩ = some (.int .u8 (l[j].toNat : Int)) := by
      intro j hj
      have := ho.cells (g := g) rfl j (.int .u8 (l[j].toNat : Int)) (by simp [byv, hj])
      rwa [Addr.add_lit, Nat.zero_add] at this
    have Hcs := Lib.hid hcs
    clear hcs hh
    (go_enter Try.func12, Try.ntmps12)
    go_wp2_with fail
    rw [conv_str (e := 5) l Try.underlying44 Try.underlying5 Try.underlying9 rfl Hcs.out]
    go_wp2_with fail
    go_ret
    exact ⟨rfl, rfl⟩
theorem sl_lit1 {w : World} {cs : List Value} {T : TypeId} (n : Nat) (h : cs.length = n) (hn : n ≤ 1000) : Sl (w.alloc (.cells cs.toArray T)) (.slice (some ⟨w.heap.size, 0, none⟩) n n) n 1 cs :=
  Sl.lit (Blk.new _ _ _) (by unfold maxLen; omega) (by omega)
theorem only_below {w0 w w' : World} {b : Nat} (h : Below w0.heap.size w0 w) (k : Only (encS w w0.heap.size b) w w') (hb : w0.heap.size ≤ b) : Below w0.heap.size w0 w' :=
  h.trans (k.below h.size (fun x hx e => by
    rcases e with e | ⟨e, _⟩ <;> omega))

theorem num_small (n : Nat) (h : n < 128) : Wire.num n = [UInt8.ofNat n] := by
  unfold Wire.num
  rw [Wire.grp, if_pos h]
  show [UInt8.ofNat (n % 128)] = _
  rw [Nat.mod_eq_of_lt h]
theorem num_300 : Wire.num 300 = [130, 44] := by
  unfold Wire.num
  rw [Wire.grp, if_neg (by omega), Wire.grp, if_pos (by omega)]
  rfl
end Go.Proofs.Ytloimgmifalpnaa
