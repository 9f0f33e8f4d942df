/- A volume of reel that a law has made: New, Write, Used. No condition. -/
import Derived.Test.YtloimgmifalpnaaReel
import Derived.Test.YtloimgmifalpnaaArgs
set_option linter.unusedSimpArgs false
set_option linter.unusedVariables false
namespace Go.Proofs.Ytloimgmifalpnaa
open Go.RowKit
set_option maxHeartbeats 2000000
set_option maxRecDepth 100000

theorem reel_Write (x : Vol) (hx : x.Ok) (s : ByteArray) (hs : s.size ≤ 1000000) (base b : Nat) (v : Value) (w : World) (h : RelV w base b v x) :
    Calls Try.prog 10 #[.pointer (some ⟨b, 0, none⟩), .string s] w (fun e w' => e = .returned (.int .i64 ((x.write ⟨s, false, false⟩).1)) ∧ RelTo w base b (x.write ⟨s, false, false⟩).2 w') := by
  have H := Lib.hid (reel_write x hx ⟨s, false, false⟩ hs base b v w h)
  generalize x.write ⟨s, false, false⟩ = r at *
  unfold Bk.cells at H
  (go_enter Try.func10, Try.ntmps10)
  go_wp2_with fail
  refine H.out.mono ?_; rintro e w1 ⟨rfl, hR⟩
  go_wp2_with fail
  go_ret
  exact ⟨rfl, hR⟩
/-- a new volume -/
def Vol.new (room : Int) : Vol := ⟨room, 0, false, 0, ⟨#[]⟩, [], 0, 0, false, 0⟩
theorem reel_New (r m : Int) (hm : m = max r 0) (hr : r ≤ 4611686018427387904) (w : World) : Calls Try.prog 6 #[.int .i64 (r)] w (fun e w' => ∃ b, e = .returned (.pointer (some ⟨b, 0, none⟩)) ∧ w.heap.size ≤ b ∧ b < w'.heap.size ∧ Below w.heap.size w w' ∧ RelV w' w'.heap.size b (.slice none 0 0) (Vol.new m)) := by
  (go_enter Try.func6, Try.ntmps6)
  go_wp2_with fail
  refine (meter_made r m hm w).mono ?_; rintro e w1 ⟨rfl, rfl⟩
  go_wp2_with fail
  go_ret
  subst hm
  refine ⟨w.heap.size + 1, rfl, by omega, by simp, (by repeat' (first | exact Below.refl _ _ | assumption | refine Below.setCell ?_ (by first | omega | (simp; done) | (simp; omega)) _ | refine Below.alloc ?_ (by first | omega | (simp; done) | (simp; omega)) _ | refine below_drew ?_ _ | apply Below.drew)), ⟨?_, World.ownsRow_nil _ _ _ _, Nat.le_refl _⟩⟩
  exact Blk.new' (by simp)
theorem tryR_fail (l : Bool) (f : Int) (h : f ≤ 1073741825) : (tryR l f).2 ≤ 1073741825 := by
  unfold tryR
  repeat' split
  all_goals first | exact h | omega | (simp only; omega) | (show _ ≤ _; simp)
theorem takeR_used (R u n : Int) (h0 : 0 ≤ u) (h1 : u ≤ R) : 0 ≤ (takeR R u n).2 ∧ (takeR R u n).2 ≤ R := by
  unfold takeR
  split
  · exact ⟨h0, h1⟩
  · split
    · simp only; omega
    · exact ⟨h0, h1⟩
theorem Vol.Ok.write {x : Vol} (h : x.Ok) (k : Bk) (hk : k.s.size ≤ 1000000) (hl : x.bl.length < 1000000) : (x.write k).2.Ok := by
  obtain ⟨o1, o2, o3, o4, o5, o6, o7, o8, o9⟩ := h
  have hf := tryR_fail x.lost x.fail o4
  obtain ⟨t1, t2⟩ := takeR_used x.room x.used (k.s.size + 4) o1 o2
  unfold Vol.write
  split
  · exact ⟨o1, o2, o3, hf, o5, o6, o7, o8, o9⟩
  split
  · exact ⟨o1, o2, o3, hf, o5, o6, o7, o8, o9⟩
  split
  · exact ⟨o1, o2, o3, hf, o5, o6, o7, o8, o9⟩
  split
  · exact ⟨t1, t2, o3, hf, o5, o6, o7, o8, o9⟩
  · refine ⟨t1, t2, o3, hf, by simp; omega, by simp; omega, by simp; omega, ?_, o9⟩
    intro j hj
    rcases List.mem_append.1 hj with hj | hj
    · exact o8 j hj
    · simp at hj
      subst hj
      exact hk
/-- block b is volume x; nothing of W has turned, and b is not W's -/
structure RV (W w : World) (base b : Nat) (x : Vol) : Prop where
  ex : ∃ v, RelV w base b v x
  bel : Below W.heap.size W w
  lo : W.heap.size ≤ b
  hi : b < base
  ok : x.Ok
theorem RV.step {W w w' : World} {base b : Nat} {x x' : Vol} (h : RV W w base b x) (k : RelTo w base b x' w') (ok : x'.Ok) : RV W w' base b x' := by
  obtain ⟨v', hr, ho⟩ := k
  refine ⟨⟨v', hr⟩, ho.under h.bel ?_, h.lo, h.hi, ok⟩
  intro k hk
  rcases hk with rfl | ⟨hk, _⟩
  · exact h.lo
  · have := h.lo; have := h.hi; omega
theorem RV.below {W w w' : World} {base b : Nat} {x : Vol} (h : RV W w base b x) (k : Below w.heap.size w w') : RV W w' base b x := by
  obtain ⟨v, hv⟩ := h.ex
  obtain ⟨h1, _⟩ := hv.below k
  exact ⟨⟨v, h1⟩, h.bel.trans (k.mono h.bel.size), h.lo, h.hi, h.ok⟩
theorem RV.drewN {W w : World} {base b : Nat} {x : Vol} (h : RV W w base b x) (n : Nat) : RV W (w.drewN n) base b x := h.below (below_drew (Below.refl _ _) n)
theorem RV.lt {W w : World} {base b : Nat} {x : Vol} (h : RV W w base b x) : b < w.heap.size := by
  obtain ⟨v, hv⟩ := h.ex
  exact hv.blk.lt
section
variable {W w : World} {base b : Nat} {x : Vol}
theorem rv_New (r m : Int) (hm : m = max r 0) (hr : r ≤ 4611686018427387904) (hB : Below W.heap.size W w) :
    Calls Try.prog 6 #[.int .i64 (r)] w (fun e w' => ∃ b base, e = .returned (.pointer (some ⟨b, 0, none⟩)) ∧ RV W w' base b (Vol.new m)) := by
  refine (reel_New r m hm hr w).mono ?_
  rintro e w' ⟨b, rfl, h1, h2, h3, h4⟩
  refine ⟨b, w'.heap.size, rfl, ⟨_, h4⟩, hB.trans (h3.mono hB.size), by have := hB.size; omega, h2, ?_⟩
  refine ⟨Int.le_refl _, by simp only [Vol.new]; omega, by simp only [Vol.new]; omega, by simp [Vol.new], by simp [Vol.new], by simp [Vol.new], by simp [Vol.new], by simp [Vol.new], by simp [Vol.new]⟩
theorem rv_Write (h : RV W w base b x) (s : ByteArray) (hs : s.size ≤ 1000000) (hl : x.bl.length < 1000000) :
    Calls Try.prog 10 #[.pointer (some ⟨b, 0, none⟩), .string s] w (fun e w' => e = .returned (.int .i64 ((x.write ⟨s, false, false⟩).1)) ∧ RV W w' base b (x.write ⟨s, false, false⟩).2) := by
  obtain ⟨v, hv⟩ := h.ex
  exact (reel_Write x h.ok s hs base b v w hv).mono fun e w' ⟨he, hr⟩ => ⟨he, h.step hr (h.ok.write _ hs hl)⟩
theorem rv_Used (h : RV W w base b x) : Calls Try.prog 8 #[.pointer (some ⟨b, 0, none⟩)] w (Drew (.int .i64 (x.used)) w) := by
  obtain ⟨v, hv⟩ := h.ex
  refine meter_used b 0 x.used w ?_
  rw [hv.blk.cell]
  rfl
/-- an append to an own row of another type (or any new block) leaves the volume as it was -/
theorem RV.only {S : Nat → Prop} {w' : World} (h : RV W w base b x) (k : Only S w w') (hb : ¬ S b) (hs : ∀ g cs fr, w.heap[g]? = some (.cells cs 67 fr) → ¬ S g) (hW : ∀ g, S g → W.heap.size ≤ g) : RV W w' base b x := by
  obtain ⟨v, hv⟩ := h.ex
  refine ⟨⟨v, hv.blk.keep k hb, own_keep hv.own k (fun g hg hS => ?_), Nat.le_trans hv.le k.size⟩, h.bel.trans (k.below h.bel.size (fun q hq hS => by have := hW q hS; omega)), h.lo, h.hi, h.ok⟩
  rcases hv.own.2 with ⟨e, _⟩ | ⟨g', _, _, e, _, hh, _⟩
  · rw [e] at hg; cases hg
  · rw [e] at hg
    have hgg : g' = g := by simpa [Value.ownBlock] using hg
    subst hgg
    exact hs _ _ _ hh hS
end
theorem cut_any (s : ByteArray) (n : Int) (m : Nat) (hn : n = m) (t : ByteArray) (ht : t = bs (s.data.toList.take m)) (hs : s.size ≤ maxLen) (w : World) : Calls Try.prog 7 #[.string s, .int .i64 (n)] w (Same (.string t) w) := by
  have hs2 : s.size ≤ 9223372036854775807 := by unfold maxLen at hs; omega
  by_cases c : m < s.size
  · have e : t = s.extract 0 m := by rw [ht, extract_bs]; simp
    subst hn e
    clear ht hs
    (go_enter Try.func7, Try.ntmps7)
    go_wp2_with fail
    go_ret
    exact ⟨rfl, rfl⟩
  · have e : t = s := by rw [ht, List.take_of_length_le (by simp; omega), bs_of]
    subst hn e
    clear ht hs
    (go_enter Try.func7, Try.ntmps7)
    go_wp2_with fail
    go_ret
    exact ⟨rfl, rfl⟩
/-- an argument of texts, in any later world -/
theorem strs_arg {W : World} {v : Value} {xs : List ByteArray} (h : RdRow W 1 (Kd.str.Rd W) [v] xs) :
    ∃ ao cap, v = .slice ao xs.length cap ∧ xs.length ≤ 9223372036854775807 ∧ (∀ x ∈ xs, x.size ≤ maxLen) ∧ (∀ w, Below W.heap.size W w → Sl w (.slice ao xs.length cap) xs.length 1 (xs.map .string)) ∧
      (0 < xs.length → ∃ b off, ao = some ⟨b, off, none⟩ ∧ b < W.heap.size ∧ ∀ (i : Nat) (x : ByteArray), xs[i]? = some x → W.cell? ⟨b, off + i, none⟩ = some (.string x)) := by
  obtain ⟨ao, cap, rfl, hlc, hcm, hpos⟩ := row_strs h
  refine ⟨ao, cap, rfl, by unfold maxLen at hcm; omega, ?_, ?_, ?_⟩
  · intro x hx
    obtain ⟨i, hi, rfl⟩ := List.getElem_of_mem hx
    obtain ⟨_, _, _, _, h⟩ := hpos (by omega)
    exact (h i _ (List.getElem?_eq_getElem hi)).2
  · intro w' hB'
    refine ⟨ao, cap, rfl, by omega, hcm, by simp, fun hp => ?_⟩
    obtain ⟨b, off, e, hb, hc⟩ := hpos (by omega)
    refine ⟨b, off, e, Nat.lt_of_lt_of_le hb hB'.size, fun j u hu => ?_⟩
    rw [(hB'.cell (p := ⟨b, off + j, none⟩) hb)]
    simp only [List.getElem?_map, Option.map_eq_some_iff] at hu
    obtain ⟨x, hx, rfl⟩ := hu
    exact (hc j x hx).1
  · intro hp
    obtain ⟨b, off, e, hb, hc⟩ := hpos hp
    exact ⟨b, off, e, hb, fun i x hx => (hc i x hx).1⟩

theorem cut_size (s : ByteArray) (m : Nat) : (bs (s.data.toList.take m)).size ≤ m := by
  rw [bs_size, List.length_take]
  omega
/-- a plain volume at its end -/
def Vol.at (R U : Int) (L : List Bk) (sf : Nat) (er : Int) : Vol := ⟨R, U, false, 0, ⟨#[]⟩, L, sf, L.length, false, er⟩
theorem write_fits (R U : Int) (L : List Bk) (sf : Nat) (er : Int) (k : Bk) (ht : lastTorn L = false) (h : (k.s.size : Int) + 4 ≤ R - U) :
    (Vol.at R U L sf er).write k = (0, Vol.at R (U + (k.s.size + 4)) (L ++ [k]) sf er) := by
  have e : takeR R U ((k.s.size : Int) + 4) = (0, U + (k.s.size + 4)) := by
    unfold takeR
    rw [if_neg (by omega), if_pos h]
  have e2 : tryR false 0 = (0, 0) := rfl
  unfold Vol.write Vol.at
  simp [e, e2, ht]
theorem write_full (R U : Int) (L : List Bk) (sf : Nat) (er : Int) (k : Bk) (ht : lastTorn L = false) (h : ¬ (k.s.size : Int) + 4 ≤ R - U) :
    (Vol.at R U L sf er).write k = (7, Vol.at R U L sf er) := by
  have e : takeR R U ((k.s.size : Int) + 4) = (7, U) := by
    unfold takeR
    rw [if_neg (by omega), if_neg h]
  have e2 : tryR false 0 = (0, 0) := rfl
  unfold Vol.write Vol.at
  simp [e, e2, ht]
theorem lastTorn_snoc (L : List Bk) (k : Bk) : lastTorn (L ++ [k]) = k.torn := by simp [lastTorn]
theorem new_at (R : Int) : Vol.new R = Vol.at R 0 [] 0 0 := rfl
end Go.Proofs.Ytloimgmifalpnaa
