/- Rows of arguments as slices; one thing at once, written by wire's Enc. No condition. -/
import Derived.Test.YthegfbfggbpahaaWire8
import Derived.Test.YthegfbfggbpahaaLaw01A
set_option linter.unusedSimpArgs false
set_option linter.unusedVariables false
namespace Go.Proofs.Ythegfbfggbpahaa
open Go.RowKit
set_option maxHeartbeats 1000000
set_option maxRecDepth 100000

theorem Sl.cut {w : World} {ao : Option Addr} {n m cap : Nat} {xs : List Value} (h : Sl w (.slice ao n cap) n 1 xs) (hm : m ≤ n) : Sl w (.slice ao m cap) m 1 (xs.take m) := by
  obtain ⟨ao', cap', e, h2, h3, h4, h5⟩ := h
  cases e
  refine ⟨_, _, rfl, by omega, h3, by simp; omega, fun hp => ?_⟩
  obtain ⟨b, off, e, hb, hc⟩ := h5 (by omega)
  refine ⟨b, off, e, hb, fun j u hu => hc j u ?_⟩
  rw [List.getElem?_take] at hu
  split at hu
  · exact hu
  · cases hu
theorem apart_old {w0 w : World} {base b n : Nat} {arg : Value} {xs : List Value} (h : Sl w0 arg n 1 xs) (h1 : w0.heap.size ≤ base) (h2 : w0.heap.size ≤ b) : Apart w base b arg := by
  obtain ⟨ao', cap', rfl, _, _, _, h5⟩ := h
  intro ao m c e h0 a ha hs
  cases e
  obtain ⟨bb, off, e, hb, _⟩ := h5 h0
  rw [e] at ha
  cases ha
  rcases hs with hs | ⟨hs, _⟩
  · simp only at hs; omega
  · simp only at hs; omega
theorem sl_u64 {w : World} {v : Value} {xs : List Int} (h : RdRow w 1 ((Kd.int .u64).Rd w) [v] xs) : ∃ ao cap, ∃ ns : List Nat, v = .slice ao ns.length cap ∧ ns.length ≤ cap ∧ cap ≤ maxLen ∧ (∀ x ∈ ns, x < 2 ^ 64) ∧ Sl w v ns.length 1 (u64v ns) := by
  obtain ⟨ao, cap, rfl, h2, h3, h5⟩ := row_ints h
  have hall : ∀ x ∈ xs, 0 ≤ x ∧ x ≤ 18446744073709551615 := by
    intro x hx
    obtain ⟨i, hi, rfl⟩ := List.getElem_of_mem hx
    obtain ⟨b, off, _, _, hc⟩ := h5 (by omega)
    exact wf_u64 (hc i xs[i] (List.getElem?_eq_getElem hi)).2
  refine ⟨ao, cap, xs.map Int.toNat, by simp, by simpa using h2, h3, ?_, ao, cap, by simp, by simpa using h2, h3, by simp [u64v], fun hp => ?_⟩
  · intro x hx
    obtain ⟨y, hy, rfl⟩ := List.mem_map.1 hx
    have := hall y hy
    omega
  · obtain ⟨b, off, e, hb, hc⟩ := h5 (by simpa using hp)
    refine ⟨b, off, e, hb, fun j u hu => ?_⟩
    simp only [u64v, List.map_map, List.getElem?_map, Option.map_eq_some_iff] at hu
    obtain ⟨x, hx, rfl⟩ := hu
    rw [(hc j x hx).1]
    have := hall x (List.mem_of_getElem? hx)
    simp [Int.toNat_of_nonneg this.1]
theorem sl_i64 {w : World} {v : Value} {xs : List Int} (h : RdRow w 1 ((Kd.int .i64).Rd w) [v] xs) : ∃ ao cap, v = .slice ao xs.length cap ∧ xs.length ≤ cap ∧ cap ≤ maxLen ∧ (∀ x ∈ xs, -9223372036854775808 ≤ x ∧ x ≤ 9223372036854775807) ∧ Sl w v xs.length 1 (i64v xs) := by
  obtain ⟨ao, cap, rfl, h2, h3, h5⟩ := row_ints h
  refine ⟨ao, cap, rfl, h2, h3, ?_, ao, cap, rfl, h2, h3, by simp [i64v], fun hp => ?_⟩
  · intro x hx
    obtain ⟨i, hi, rfl⟩ := List.getElem_of_mem hx
    obtain ⟨b, off, _, _, hc⟩ := h5 (by omega)
    exact wf_i64 (hc i xs[i] (List.getElem?_eq_getElem hi)).2
  · obtain ⟨b, off, e, hb, hc⟩ := h5 hp
    refine ⟨b, off, e, hb, fun j u hu => ?_⟩
    simp only [i64v, List.getElem?_map, Option.map_eq_some_iff] at hu
    obtain ⟨x, hx, rfl⟩ := hu
    exact (hc j x hx).1
theorem sl_str {w : World} {v : Value} {xs : List ByteArray} (h : RdRow w 1 (Kd.str.Rd w) [v] xs) : ∃ ao cap, v = .slice ao xs.length cap ∧ xs.length ≤ cap ∧ cap ≤ maxLen ∧ (∀ x ∈ xs, x.size ≤ maxLen) ∧ Sl w v xs.length 1 (strv xs) := by
  obtain ⟨ao, cap, rfl, h2, h3, h5⟩ := row_strs h
  refine ⟨ao, cap, rfl, h2, h3, ?_, ao, cap, rfl, h2, h3, by simp [strv], fun hp => ?_⟩
  · intro x hx
    obtain ⟨i, hi, rfl⟩ := List.getElem_of_mem hx
    obtain ⟨b, off, _, _, hc⟩ := h5 (by omega)
    exact (hc i xs[i] (List.getElem?_eq_getElem hi)).2
  · obtain ⟨b, off, e, hb, hc⟩ := h5 hp
    refine ⟨b, off, e, hb, fun j u hu => ?_⟩
    simp only [strv, List.getElem?_map, Option.map_eq_some_iff] at hu
    obtain ⟨x, hx, rfl⟩ := hu
    exact (hc j x hx).1
theorem sl_bool {w : World} {v : Value} {xs : List Bool} (h : RdRow w 1 (Kd.bool.Rd w) [v] xs) : ∃ ao cap, v = .slice ao xs.length cap ∧ xs.length ≤ cap ∧ cap ≤ maxLen ∧ Sl w v xs.length 1 (boolv xs) := by
  obtain ⟨ao, cap, h1, h2, h3, _, h5⟩ := h
  simp only [List.cons.injEq, and_true] at h1
  refine ⟨ao, cap, h1, h2, h3, ao, cap, h1, h2, h3, by simp [boolv], fun hp => ?_⟩
  obtain ⟨b, off, e, hb, he⟩ := h5 hp
  refine ⟨b, off, e, hb, fun j u hu => ?_⟩
  simp only [boolv, List.getElem?_map, Option.map_eq_some_iff] at hu
  obtain ⟨x, hx, rfl⟩ := hu
  obtain ⟨es, _, hc, h7⟩ := he j x hx
  have h7 : es = [.bool x] := h7
  subst h7
  simpa using hc 0 _ rfl


theorem own_lit (w : World) (cs : List Value) (e : TypeId) (base n : Nat) (hn : cs.length = n) (hb : base ≤ w.heap.size) (hm : n ≤ 1000000) : (w.alloc (.cells cs.toArray e)).ownsRow base e 1 (.slice (some ⟨w.heap.size, 0, none⟩) n n) n cs :=
  ⟨by omega, Or.inr ⟨w.heap.size, n, cs.toArray, rfl, hb, Blk.new _ _ _, Nat.le_refl _, by unfold maxLen; omega, by simp; omega, by subst hn; simp⟩⟩
theorem EncV.keep {w w' : World} {base b : Nat} {v : Value} {l : List UInt8} {S : Nat → Prop} (h : EncV w base b v l) (k : Only S w w') (h1 : ¬ S b) (h2 : ∀ g, v.ownBlock = some g → ¬ S g) : EncV w' base b v l :=
  ⟨h.blk.keep k h1, own_keep h.own k h2, Nat.le_trans h.le k.size⟩
theorem EncV.below {w w' : World} {base b : Nat} {v : Value} {l : List UInt8} (h : EncV w base b v l) (k : Below w.heap.size w w') : EncV w' base b v l :=
  h.keep (only_of_below k (fun _ => False)) (fun e => e) (fun _ _ e => e)
/-- An own row of other elements stands apart from an Enc. -/
theorem apart_own {w : World} {base base' b n : Nat} {e : TypeId} {v va : Value} {l : List UInt8} {xs : List Value} (h : EncV w base b v l) (ho : w.ownsRow base' e 1 va n xs) (he : e ≠ 5) (he2 : e ≠ 25) : Apart w base b va := by
  intro ao m c ev h0 a ha hs
  rcases ho.2 with ⟨rfl, _⟩ | ⟨g, cap, cur, rfl, hg, hh, _⟩
  · cases ev
    cases ha
  · cases ev
    cases ha
    rcases hs with hs | ⟨_, cs, fr, hs⟩
    · simp only at hs
      subst hs
      have := h.blk
      unfold Blk at this
      rw [this] at hh
      injection hh with hh
      injection hh with _ hh
      exact he2 hh.symm
    · simp only at hs
      rw [hs] at hh
      injection hh with hh
      injection hh with _ hh
      exact he hh.symm
theorem own_apart {w : World} {base base' b n : Nat} {e : TypeId} {v va : Value} {l : List UInt8} {xs : List Value} (h : EncV w base b v l) (ho : w.ownsRow base' e 1 va n xs) (he : e ≠ 5) (he2 : e ≠ 25) : ∀ g, va.ownBlock = some g → ¬ encS w base b g := by
  intro g hg hs
  rcases ho.2 with ⟨rfl, _⟩ | ⟨g', cap, cur, rfl, hg', hh, _⟩
  · cases hg
  · cases hg
    rcases hs with hs | ⟨_, cs, fr, hs⟩
    · subst hs
      have := h.blk
      unfold Blk at this
      rw [this] at hh
      injection hh with hh
      injection hh with _ hh
      exact he2 hh.symm
    · rw [hs] at hh
      injection hh with hh
      injection hh with _ hh
      exact he hh.symm
theorem only_below' {w0 w w' : World} {B base b : Nat} (h : Below B w0 w) (k : Only (encS w base b) w w') (h1 : B ≤ base) (h2 : B ≤ b) (hB : B ≤ w0.heap.size) : Below B w0 w' :=
  h.trans (k.below (Nat.le_trans hB h.size) (fun x hx e => by rcases e with e | ⟨e, _⟩ <;> omega))

theorem enc_I1 (x : Int) (hx : -9223372036854775808 ≤ x ∧ x ≤ 9223372036854775807) (base b : Nat) (v : Value) (l : List UInt8) (hlen : l.length + 10 ≤ 100000000) (w : World) (hE : EncV w base b v l) :
    Calls Try.prog 10 #[.pointer (some ⟨b, 0, none⟩), .slice (some ⟨w.heap.size, 0, none⟩) 1 1] (w.alloc (.cells #[.int .i64 (x)] 3)) (fun e w' => e = .returned (.pointer (some ⟨b, 0, none⟩)) ∧ EncTo w base b (l ++ Wire.num x.toNat) w') := by
  refine (enc_I [x] (by simpa using hx) base b v l (by simp; omega) _ _ (hE.alloc (.cells #[.int .i64 (x)] 3)) (sl_lit1 (cs := i64v [x]) 1 rfl (by omega)) (apart_lit hE.blk.lt (by decide))).mono ?_
  rintro e w' ⟨rfl, h⟩
  have := h.unalloc
  simp [Wire.nums] at this
  exact ⟨rfl, this⟩
theorem enc_B1 (x : Bool) (base b : Nat) (v : Value) (l : List UInt8) (hlen : l.length + 10 ≤ 100000000) (w : World) (hE : EncV w base b v l) :
    Calls Try.prog 11 #[.pointer (some ⟨b, 0, none⟩), .slice (some ⟨w.heap.size, 0, none⟩) 1 1] (w.alloc (.cells #[.bool x] 4)) (fun e w' => e = .returned (.pointer (some ⟨b, 0, none⟩)) ∧ EncTo w base b (l ++ [if x then 1 else 0]) w') := by
  refine (enc_B [x] base b v l (by simp; omega) _ _ (hE.alloc (.cells #[.bool x] 4)) (sl_lit1 (cs := boolv [x]) 1 rfl (by omega)) (apart_lit hE.blk.lt (by decide))).mono ?_
  rintro e w' ⟨rfl, h⟩
  have := h.unalloc
  simp [Wire.truths] at this
  exact ⟨rfl, by simpa using this⟩
theorem enc_S1 (x : ByteArray) (hx : x.size ≤ 1000000) (base b : Nat) (v : Value) (l : List UInt8) (hlen : l.length + 1000010 ≤ 100000000) (w : World) (hE : EncV w base b v l) :
    Calls Try.prog 13 #[.pointer (some ⟨b, 0, none⟩), .slice (some ⟨w.heap.size, 0, none⟩) 1 1] (w.alloc (.cells #[.string x] 9)) (fun e w' => e = .returned (.pointer (some ⟨b, 0, none⟩)) ∧ EncTo w base b (l ++ Wire.text x) w') := by
  refine (enc_S [x] (by simpa using hx) base b v l (by simp; omega) _ _ (hE.alloc (.cells #[.string x] 9)) (sl_lit1 (cs := strv [x]) 1 rfl (by omega)) (apart_lit hE.blk.lt (by decide))).mono ?_
  rintro e w' ⟨rfl, h⟩
  have := h.unalloc
  simp [Wire.texts] at this
  exact ⟨rfl, by simpa using this⟩
end Go.Proofs.Ythegfbfggbpahaa
