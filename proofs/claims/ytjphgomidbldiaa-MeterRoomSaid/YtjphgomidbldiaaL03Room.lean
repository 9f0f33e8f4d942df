/- MeterRoom: what is taken is never more than the room. No condition. -/
import Derived.Test.YtjphgomidbldiaaArgs
import Derived.Test.YtjphgomidbldiaaL03A
namespace Go.Proofs.Ytjphgomidbldiaa
open Go.RowKit

theorem ei_int : EI Try.prog 29 3 (.int .i64 0) 1 8 := EI.mk' Try.underlying29 (by kernel_rfl) rfl (by decide)

set_option maxHeartbeats 4000000 in
theorem MeterRoom_walk (W : World) (v0 v1 : Value) (x0 : (Kd.int .i64).den) (w0 : (Kd.int .i64).Arg W v0 x0) (x1 : (Kd.slice (.int .i64)).den) (w1 : (Kd.slice (.int .i64)).Arg W v1 x1) :
    Calls Try.prog 4 #[v0, v1] W (Done W) := by
  obtain ⟨room, rfl⟩ : ∃ n : Int, n = x0 := ⟨_, rfl⟩
  obtain ⟨xs, rfl⟩ : ∃ xs : List Int, xs = x1 := ⟨_, rfl⟩
  obtain ⟨ao, cap, rfl, hlc, hcm, hpos⟩ := row_ints w1
  obtain ⟨rfl, wr⟩ := w0
  have hr := (wf_i64 wr).2
  clear w1 wr
  have hlm : xs.length ≤ 9223372036854775807 := by unfold maxLen at hcm; omega
  generalize hlen : xs.length = len at *
  have Hlen := Lib.hid hlen
  clear hlen hcm
  obtain ⟨R, hR⟩ : ∃ R : Int, R = max room 0 := ⟨_, rfl⟩
  have hR0 : 0 ≤ R := by omega
  have hRm : R ≤ 9223372036854775807 := by omega
  have HR := Lib.hid hR
  clear hR
  (go_enter Try.func4, Try.ntmps4)
  go_wp2_with fail; refine (meter_made room R HR.out _).mono ?_; rintro e w' ⟨rfl, rfl⟩
  go_wp2_with fail
  have hb0 := Blk.new (W.alloc (.cells #[.int .i64 (R), .int .i64 (0)] 31)) #[.int .i64 (R), .int .i64 (0)] 31
  have ho0 := World.ownsRow_lit (base := W.heap.size + 2) (e := 3) (size := 1) ((W.alloc (.cells #[.int .i64 (R), .int .i64 (0)] 31)).alloc (.cells #[.int .i64 (R), .int .i64 (0)] 31)) #[] 0 (by simp) (by decide) rfl
  simp only [World.size_alloc] at hb0 ho0
  go_loopw [6, 7, 8] (fun al v i wr => ∃ (k : Nat) (ts : List Int), k ≤ len ∧ k ≤ 30 ∧ i = .int .i64 (k) ∧ ts.length ≤ k ∧ (∀ t ∈ ts, 0 ≤ t) ∧ al = .int .i64 (totR ts) ∧ totR ts ≤ R ∧ Blk wr (W.heap.size + 1) #[.int .i64 (R), .int .i64 (totR ts)] 31 ∧
      wr.ownsRow (W.heap.size + 2) 3 1 v ts.length (ts.map (.int .i64)) ∧ Below W.heap.size W wr ∧ W.heap.size + 2 ≤ wr.heap.size) (fun _ _ i _ => len - (intOf i).toNat)
  case atStart => exact ⟨0, [], by omega, by omega, rfl, Nat.le_refl _, by simp, rfl, hR0, hb0.alloc _, ho0, (((Below.refl _ _).alloc (Nat.le_refl _) _).alloc (by simp) _).alloc (by simp; omega) _, by simp⟩
  case round =>
    obtain ⟨k, ts, hk, hk30, rfl, htl, hts, rfl, htot, hb1, hown, hB1, hz2⟩ := hrel
    have ht0 := totR_nonneg ts
    have hle : totR ts ≤ max room 0 := by have := HR.out; omega
    have hz : W.heap.size ≤ W.heap.size + 1 := by omega
    clear hb0
    by_cases hlt : k < len ∧ k < 30
    · obtain ⟨h1, h2⟩ := hlt
      obtain ⟨b, off, rfl, hbW, hcell⟩ := hpos (by omega)
      have hx := hcell k (xs[k]'(by have := Hlen.out; omega)) (List.getElem?_eq_getElem _)
      generalize xs[k]'(by have := Hlen.out; omega) = n at *
      have hc := (hB1.cell (p := ⟨b, off + k, none⟩) hbW).trans hx.1
      have hnw := (wf_i64 hx.2).2
      clear hcell hx hpos
      by_cases c : 0 ≤ n ∧ n ≤ R - totR ts
      · obtain ⟨c1, c2⟩ := c
        have e1 : takeR R (totR ts) n = (0, totR ts + n) := by unfold takeR; rw [if_neg (by omega), if_pos c2]
        have e2 : totR (ts ++ [n]) = totR ts + n := by rw [totR_append]; show _ + (max n 0 + 0) = _; omega
        have Hts := Lib.hid hts
        clear hts
        generalize totR ts = u at *
        have E2 := Lib.hid e2
        have E1 := Lib.hid e1
        clear e2 e1
        go_wp2_with fail
        refine (take_blk _ 0 _ _ _ R u n hb1 rfl rfl ht0 htot hRm 0 (u + n) #[.int .i64 (R), .int .i64 (u + n)] E1.out rfl).mono ?_; rintro e w5 ⟨rfl, hb5, hk5⟩
        have hc5 := (hk5.cell (p := ⟨b, off + k, none⟩) (Nat.lt_of_lt_of_le hbW hB1.size) (fun e => by have e' : b = W.heap.size + 1 := e; omega)).trans hc
        have ho5 := own_keep hown hk5 (fun g hg e => by have e' : g = W.heap.size + 1 := e; have := own_ge hown g hg; omega)
        have hB5 := below_one hB1 hk5 hz
        have hz5 := Nat.le_trans hz2 hk5.size
        clear hB1 hk5 hb1 hown hc hz2
        go_wp2_with (at_builtin; refine wpl_app rfl rfl ei_int (W.heap.size + 2) rfl (ho5.alloc _) [.int .i64 (n)] rfl rfl (Blk.new _ _ _) rfl (by omega) (by unfold maxLen; omega) (by simp; omega) ?_; intro v' w6 hown6 hk6)
        have hB6 := below_many (hB5.alloc hB5.size _) hk6 (fun g hg => by have := own_ge ho5 g hg; omega)
        have hb6 := (hb5.alloc (.cells #[.int .i64 (n)] 3)).keep hk6 (fun e => by have := own_ge ho5 _ e; omega)
        have hz6 : W.heap.size + 2 ≤ w6.heap.size := Nat.le_trans hz5 (Nat.le_trans (by simp) hk6.size)
        have hle' : u + n ≤ max room 0 := by have := HR.out; omega
        clear hB5 hb5 ho5 hk6 hz5 hle
        refine (used_blk _ 0 _ _ _ (u + n) hb6 rfl).mono ?_; rintro e w7 ⟨rfl, hb7, hk7⟩
        have hB7 := below_one hB6 hk7 hz
        have ho7 := own_keep hown6 hk7 (fun g hg e => by have e' : g = W.heap.size + 1 := e; have := own_ge hown6 g hg; omega)
        have hz7 := Nat.le_trans hz6 hk7.size
        clear hB6 hk7 hb6 hown6 hz6
        go_wp2_with fail
        refine ⟨⟨k + 1, ts ++ [n], by omega, by omega, by go_num, by simp; omega, ?_, by rw [E2.out], by rw [E2.out]; omega, by rw [E2.out]; exact hb7, by simpa using ho7, hB7, hz7⟩, by simp [intOf]; omega⟩
        intro t ht
        rcases List.mem_append.1 ht with ht | ht
        · exact Hts.out t ht
        · simp at ht; omega
      · obtain ⟨q, hq1, hq2⟩ : ∃ q, takeR R (totR ts) n = (q, totR ts) ∧ (q = 1 ∨ q = 7) := by
          unfold takeR
          by_cases c1 : n < 0
          · exact ⟨1, by rw [if_pos c1], Or.inl rfl⟩
          · exact ⟨7, by rw [if_neg c1, if_neg (by omega)], Or.inr rfl⟩
        have Hts := Lib.hid hts
        have Q1 := Lib.hid hq1
        have hq0 : (q == 0) = false := by rcases hq2 with rfl | rfl <;> decide
        clear hts hq1 hq2
        generalize hu : totR ts = u at *
        have Hu := Lib.hid hu
        clear hu
        go_wp2_with fail
        refine (take_blk _ 0 _ _ _ R u n hb1 rfl rfl ht0 htot hRm q u #[.int .i64 (R), .int .i64 (u)] Q1.out rfl).mono ?_; rintro e w5 ⟨rfl, hb5, hk5⟩
        have ho5 := own_keep hown hk5 (fun g hg e => by have e' : g = W.heap.size + 1 := e; have := own_ge hown g hg; omega)
        have hB5 := below_one hB1 hk5 hz
        have hz5 := Nat.le_trans hz2 hk5.size
        clear hB1 hk5 hb1 hown hc hz2
        go_wp2_with fail
        refine (used_blk _ 0 _ _ _ u hb5 rfl).mono ?_; rintro e w7 ⟨rfl, hb7, hk7⟩
        have hB7 := below_one hB5 hk7 hz
        have ho7 := own_keep ho5 hk7 (fun g hg e => by have e' : g = W.heap.size + 1 := e; have := own_ge ho5 g hg; omega)
        have hz7 := Nat.le_trans hz5 hk7.size
        clear hB5 hk7 hb5 ho5 hz5
        go_wp2_with fail
        exact ⟨⟨k + 1, ts, by omega, by omega, by go_num, by omega, Hts.out, by rw [Hu.out], by rw [Hu.out]; omega, by rw [Hu.out]; exact hb7, ho7, hB7, hz7⟩, by simp [intOf]; omega⟩
    · by_cases h1 : k < len
      · have h2 : 30 ≤ k := by omega
        have Hpos := Lib.hid hpos
        clear hpos
        obtain ⟨ao2, cap2, rfl, hl2, hm2, _, _⟩ := Sl.of_own hown
        have hl3 : ts.length ≤ 30 := by omega
        generalize hn : ts.length = n at *
        have Hn := Lib.hid hn
        clear hn hm2
        go_wp2_with fail
        go_loopw [54] (fun i wr => ∃ j : Nat, j ≤ n ∧ i = .int .i64 (j) ∧ Blk wr (W.heap.size + 1) #[.int .i64 (R), .int .i64 (totR (ts.drop j))] 31 ∧ wr.ownsRow (W.heap.size + 2) 3 1 (.slice ao2 n cap2) n (ts.map (.int .i64)) ∧ Below W.heap.size W wr) (fun i _ => n - (intOf i).toNat)
        case atStart => exact ⟨0, by omega, rfl, hb1, hown, hB1⟩
        case round =>
          obtain ⟨j, hj, rfl, hb2, ho2, hB2⟩ := hrel
          clear hb1 hown hB1 hz2
          by_cases hlj : j < n
          · obtain ⟨ao3, cap3, e3, _, _, _, h3⟩ := Sl.of_own ho2
            injection e3 with e3 _ e4
            subst e3 e4
            obtain ⟨b2, off2, rfl, hbw2, hc2⟩ := h3 (by omega)
            have hjl : j < ts.length := by have := Hn.out; omega
            have hcj := hc2 j (.int .i64 ts[j]) (by simp [hjl])
            have hdr : totR (ts.drop j) = ts[j] + totR (ts.drop (j + 1)) := by
              rw [List.drop_eq_getElem_cons hjl]
              have := hts _ (List.getElem_mem hjl)
              show max ts[j] 0 + totR _ = _
              omega
            have hg0 := hts _ (List.getElem_mem hjl)
            have hd0 := totR_nonneg (ts.drop (j + 1))
            have hdm : totR (ts.drop j) ≤ totR ts := by
              have := totR_append (ts.take j) (ts.drop j)
              rw [List.take_append_drop] at this
              have := totR_nonneg (ts.take j)
              omega
            rw [hdr] at hb2
            generalize ts[j] = g at *
            generalize hrest : totR (ts.drop (j + 1)) = rest at *
            have Hrest := Lib.hid hrest
            have hgr : g + rest ≤ totR ts := by omega
            have Hts := Lib.hid hts
            clear hrest hdr hc2 h3 hts hdm
            generalize totR ts = u at *
            go_wp2_with fail
            refine (give_blk _ 0 _ _ _ (g + rest) g hb2 rfl (by omega) (by omega) 0 rest #[.int .i64 (R), .int .i64 (rest)] (by unfold giveR; rw [if_neg (by omega), if_neg (by omega)]; congr 1; omega) rfl).mono ?_; rintro e w5 ⟨rfl, hb5, hk5⟩
            have ho5 := own_keep ho2 hk5 (fun g hg e => by have e' : g = W.heap.size + 1 := e; have := own_ge ho2 g hg; omega)
            have hB5 := below_one hB2 hk5 hz
            clear hk5 hb2 ho2 hB2
            go_wp2_with fail
            exact ⟨⟨j + 1, by omega, by go_num, by rw [Hrest.out]; exact hb5, ho5, hB5⟩, by simp [intOf]; omega⟩
          · obtain rfl : n = j := by omega
            have hd : totR (ts.drop n) = 0 := by rw [List.drop_of_length_le (by have := Hn.out; omega)]; rfl
            rw [hd] at hb2
            clear hd ho2
            go_wp2_with fail
            refine (awake_any _).mono ?_; rintro e w6 ⟨rfl, hB6⟩
            have hb6 := hb2.keep (only_of_below hB6 (fun _ => False)) (fun e => e)
            have hB7 := hB2.trans (hB6.mono hB2.size)
            clear hB2 hB6 hb2
            go_wp2_with fail
            refine (used_blk _ 0 _ _ _ 0 hb6 rfl).mono ?_; rintro e w7 ⟨rfl, hb7, hk7⟩
            have hB8 := below_one hB7 hk7 hz
            go_wp2_with fail
            refine (free_blk _ 0 _ _ _ R 0 hb7 rfl rfl (by omega) hR0 hRm R (by omega)).mono ?_; rintro e w8 ⟨rfl, hb8, hk8⟩
            have hB9 := below_one hB8 hk8 hz
            go_wp2_with fail
            refine (room_blk _ 0 _ _ _ R hb8 rfl).mono ?_; rintro e w9 ⟨rfl, hb9, hk9⟩
            have hB10 := below_one hB9 hk9 hz
            go_wp2_with fail
            go_ret
            exact ⟨rfl, hB10⟩
      · have h2 : len ≤ k := by omega
        have Hpos := Lib.hid hpos
        clear hpos
        obtain ⟨ao2, cap2, rfl, hl2, hm2, _, _⟩ := Sl.of_own hown
        have hl3 : ts.length ≤ 30 := by omega
        generalize hn : ts.length = n at *
        have Hn := Lib.hid hn
        clear hn hm2
        go_wp2_with fail
        go_loopw [54] (fun i wr => ∃ j : Nat, j ≤ n ∧ i = .int .i64 (j) ∧ Blk wr (W.heap.size + 1) #[.int .i64 (R), .int .i64 (totR (ts.drop j))] 31 ∧ wr.ownsRow (W.heap.size + 2) 3 1 (.slice ao2 n cap2) n (ts.map (.int .i64)) ∧ Below W.heap.size W wr) (fun i _ => n - (intOf i).toNat)
        case atStart => exact ⟨0, by omega, rfl, hb1, hown, hB1⟩
        case round =>
          obtain ⟨j, hj, rfl, hb2, ho2, hB2⟩ := hrel
          clear hb1 hown hB1 hz2
          by_cases hlj : j < n
          · obtain ⟨ao3, cap3, e3, _, _, _, h3⟩ := Sl.of_own ho2
            injection e3 with e3 _ e4
            subst e3 e4
            obtain ⟨b2, off2, rfl, hbw2, hc2⟩ := h3 (by omega)
            have hjl : j < ts.length := by have := Hn.out; omega
            have hcj := hc2 j (.int .i64 ts[j]) (by simp [hjl])
            have hdr : totR (ts.drop j) = ts[j] + totR (ts.drop (j + 1)) := by
              rw [List.drop_eq_getElem_cons hjl]
              have := hts _ (List.getElem_mem hjl)
              show max ts[j] 0 + totR _ = _
              omega
            have hg0 := hts _ (List.getElem_mem hjl)
            have hd0 := totR_nonneg (ts.drop (j + 1))
            have hdm : totR (ts.drop j) ≤ totR ts := by
              have := totR_append (ts.take j) (ts.drop j)
              rw [List.take_append_drop] at this
              have := totR_nonneg (ts.take j)
              omega
            rw [hdr] at hb2
            generalize ts[j] = g at *
            generalize hrest : totR (ts.drop (j + 1)) = rest at *
            have Hrest := Lib.hid hrest
            have hgr : g + rest ≤ totR ts := by omega
            have Hts := Lib.hid hts
            clear hrest hdr hc2 h3 hts hdm
            generalize totR ts = u at *
            go_wp2_with fail
            refine (give_blk _ 0 _ _ _ (g + rest) g hb2 rfl (by omega) (by omega) 0 rest #[.int .i64 (R), .int .i64 (rest)] (by unfold giveR; rw [if_neg (by omega), if_neg (by omega)]; congr 1; omega) rfl).mono ?_; rintro e w5 ⟨rfl, hb5, hk5⟩
            have ho5 := own_keep ho2 hk5 (fun g hg e => by have e' : g = W.heap.size + 1 := e; have := own_ge ho2 g hg; omega)
            have hB5 := below_one hB2 hk5 hz
            clear hk5 hb2 ho2 hB2
            go_wp2_with fail
            exact ⟨⟨j + 1, by omega, by go_num, by rw [Hrest.out]; exact hb5, ho5, hB5⟩, by simp [intOf]; omega⟩
          · obtain rfl : n = j := by omega
            have hd : totR (ts.drop n) = 0 := by rw [List.drop_of_length_le (by have := Hn.out; omega)]; rfl
            rw [hd] at hb2
            clear hd ho2
            go_wp2_with fail
            refine (awake_any _).mono ?_; rintro e w6 ⟨rfl, hB6⟩
            have hb6 := hb2.keep (only_of_below hB6 (fun _ => False)) (fun e => e)
            have hB7 := hB2.trans (hB6.mono hB2.size)
            clear hB2 hB6 hb2
            go_wp2_with fail
            refine (used_blk _ 0 _ _ _ 0 hb6 rfl).mono ?_; rintro e w7 ⟨rfl, hb7, hk7⟩
            have hB8 := below_one hB7 hk7 hz
            go_wp2_with fail
            refine (free_blk _ 0 _ _ _ R 0 hb7 rfl rfl (by omega) hR0 hRm R (by omega)).mono ?_; rintro e w8 ⟨rfl, hb8, hk8⟩
            have hB9 := below_one hB8 hk8 hz
            go_wp2_with fail
            refine (room_blk _ 0 _ _ _ R hb8 rfl).mono ?_; rintro e w9 ⟨rfl, hb9, hk9⟩
            have hB10 := below_one hB9 hk9 hz
            go_wp2_with fail
            go_ret
            exact ⟨rfl, hB10⟩
namespace MeterRoom
open Go.ChangeShapes Go.WideShapes Go.ChangeAt Go.RowKit
set_option linter.unusedVariables false
theorem own : ownKnob Try.prog.godebug = none := by kernel_rfl
theorem laidOut : laidOutB Try.prog = true := by kernel_rfl
set_option maxRecDepth 100000 in
theorem lifted (os : Os) (started : os.Started) (H : Type) (enc : TypeId × Value → H) :
    ReturnsInHanded {} Try.checked os 4 .any (Rows.meterRoomSpec.pre6 enc Try.prog Try.f4 Rows.meterRoomRow.domain false) (Rows.meterRoomSpec.post enc Try.prog Try.f4 false true false false) := by
  refine returnsInHanded_of_change (C := Try.checked) own started (by kernel_rfl) Try.func4
    (ChangeSpec.witness6 (enc := enc) (C := Try.checked) false ⟨#[], #[.int .i64 0, .slice none 0 0], []⟩ 8 (by kernel_rfl) (by kernel_rfl) (by kernel_rfl) (by kernel_rfl)) ?_
  intro W base args ds gs before hval0 hW hcnd _
  have hval : ∀ (j : Nat) t v, Try.f4.params[j]? = some t → args[j]? = some v → Value.okWide Try.prog W .any base t v := hval0
  have hW' := hW
  obtain ⟨p, q, hA0, hV, rfl, hfz, hnd⟩ := hW
  have hA : DataW.TrodAll enc Try.prog W 0 (fun _ => true) true Try.f4.params.toList args.toList ds p := hA0
  rw [Try.params4] at hA hval
  obtain ⟨v0, vs0, d0, ds0, p0, q0, hargs, rfl, rfl, h0, r0⟩ := trodAll_cons hA
  obtain ⟨v1, vs1, d1, ds1, p1, q1, rfl, rfl, rfl, h1, r1⟩ := trodAll_cons r0
  obtain ⟨rfl, rfl, rfl⟩ := trodAll_nil r1
  obtain rfl : args = #[v0, v1] := by cases args; simp_all
  obtain ⟨rfl, rfl⟩ := trodVars_none hV
  have lt0 : ∀ x ∈ p0, x.block < W.heap.size := by obtain ⟨m, hm⟩ := h0; exact DataW.trod_lt m _ _ _ hm
  obtain ⟨x0, w0⟩ := arg_open (Kd.int .i64) h0 (hval 0 _ v0 rfl rfl) (by kernel_rfl)
  have lt1 : ∀ x ∈ p1, x.block < W.heap.size := by obtain ⟨m, hm⟩ := h1; exact DataW.trod_lt m _ _ _ hm
  obtain ⟨x1, w1⟩ := arg_open (Kd.slice (.int .i64)) h1 (hval 1 _ v1 rfl rfl) (by kernel_rfl)
  clear hA0 hval0
  refine (MeterRoom_walk W v0 v1 x0 w0 x1 w1).mono fun e W' ⟨he, bel⟩ => ?_
  subst he
  exact ⟨_, rfl, _, _, _, [], _, [], hW', trodAll_mk1 (shut_bool (by kernel_rfl) _), (trodAll_cons_mk (Below.trod laidOut (by kernel_rfl) (of_decide_eq_true (by kernel_rfl)) h0 bel lt0) (trodAll_cons_mk (Below.trod laidOut (by kernel_rfl) (of_decide_eq_true (by kernel_rfl)) h1 bel lt1) trodAll_mk0)), rfl, bel.frame _, fun h => by cases h⟩

theorem over : Rows.meterRoomRow.holds Try.pinned (OpenSpec.ofChange Rows.meterRoomSpec) :=
  OpenClaim.holds_of_wide 4 Try.f4 rfl rfl rfl rfl rfl rfl rfl ⟨rfl, rfl, rfl, rfl, rfl⟩ rfl rfl rfl rfl rfl (by kernel_rfl) Try.func4 (by kernel_rfl)
    (of_decide_eq_true (by kernel_rfl)) (by unfold Func.isWrapper; rw [if_neg (of_decide_eq_false (by kernel_rfl))]; exact ⟨rfl, rfl⟩)
    (fun os started H enc _ => lifted os started H enc)
/-- THE STATEMENT. -/
theorem proved : Rows.MeterRoomSaid := over
#print axioms proved
end MeterRoom
end Go.Proofs.Ytjphgomidbldiaa
