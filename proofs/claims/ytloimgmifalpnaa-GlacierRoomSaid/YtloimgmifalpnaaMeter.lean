/- What the calls of meter's Meter and Luck do, wherever these lie in memory (embedded or not). No condition but the cells that are read. -/
import Derived.Test.YtloimgmifalpnaaRows
import Derived.Test.YtloimgmifalpnaaBase
namespace Go.Proofs.Ytloimgmifalpnaa
open Go.RowKit

set_option maxHeartbeats 400000

theorem meter_made (r m : Int) (hm : m = max r 0) (w : World) :
    Calls Try.prog 16 #[.int .i64 (r)] w fun e w' => e = .returned (.agg #[.int .i64 (m), .int .i64 (0)]) ∧ w.alloc (.cells #[.int .i64 (m), .int .i64 (0)] 31) = w' := by
  by_cases c : r < 0
  · obtain rfl : m = 0 := by omega
    clear hm
    (go_enter Try.func16, Try.ntmps16)
    go_wp2
    exact bodyPost_ret (v := .agg #[.int .i64 0, .int .i64 0]) (by simp [results, Try.results16, go_sem]) rfl ⟨rfl, rfl⟩
  · obtain rfl : m = r := by omega
    clear hm
    have c' : 0 ≤ m := by omega
    (go_enter Try.func16, Try.ntmps16)
    go_wp2
    exact bodyPost_ret (v := .agg #[.int .i64 m, .int .i64 0]) (by simp [results, Try.results16, go_sem]) rfl ⟨rfl, rfl⟩

theorem meter_fits (b o : Nat) (room used n : Int) (w : World) (h0 : w.cell? ⟨b, o, none⟩ = some (.int .i64 (room))) (h1 : w.cell? ⟨b, o + 1, none⟩ = some (.int .i64 (used)))
    (hu : 0 ≤ used) (hr : used ≤ room) (hm : room ≤ 9223372036854775807) :
    Calls Try.prog 26 #[.pointer (some ⟨b, o, none⟩), .int .i64 (n)] w (Drew (.bool (decide (n ≤ room - used))) w) := by
  (go_enter Try.func26, Try.ntmps26)
  go_wp2
  go_quiet (fail)
  go_wp2
  go_ret
  exact Drew.intro _ rfl rfl

/-- what Take answers, and what is used behind it -/
def takeR (room used n : Int) : Int × Int := if n < 0 then (1, used) else if n ≤ room - used then (0, used + n) else (7, used)
theorem meter_take (b o : Nat) (room used n : Int) (w : World) (h0 : w.cell? ⟨b, o, none⟩ = some (.int .i64 (room))) (h1 : w.cell? ⟨b, o + 1, none⟩ = some (.int .i64 (used)))
    (hf : w.frozen? ⟨b, o + 1, none⟩ = false) (hu : 0 ≤ used) (hr : used ≤ room) (hm : room ≤ 9223372036854775807) :
    Calls Try.prog 23 #[.pointer (some ⟨b, o, none⟩), .int .i64 (n)] w (Drew (.int .i64 ((takeR room used n).1)) (w.setCell ⟨b, o + 1, none⟩ (.int .i64 ((takeR room used n).2)))) := by
  by_cases c : n < 0
  · have e : takeR room used n = (1, used) := by simp [takeR, c]
    rw [e, setCell_same h1]
    clear e
    (go_enter Try.func23, Try.ntmps23)
    go_wp2
    go_ret
    exact Drew.intro0 rfl rfl
  · by_cases d : n ≤ room - used
    · have e : takeR room used n = (0, used + n) := by simp [takeR, c, d]
      rw [e]
      clear e
      have hb : decide (n ≤ room - used) = true := decide_eq_true d
      (go_enter Try.func23, Try.ntmps23)
      go_wp2_with (go_at_call 26; refine (meter_fits b o room used n _ (by simpa using h0) (by simpa using h1) hu hr hm).mono ?_; rintro e w' ⟨k, rfl, rfl⟩)
      go_ret
      exact Drew.intro _ rfl rfl
    · have e : takeR room used n = (7, used) := by simp [takeR, c, d]
      rw [e, setCell_same h1]
      clear e
      have hb : decide (n ≤ room - used) = false := decide_eq_false d
      (go_enter Try.func23, Try.ntmps23)
      go_wp2_with (go_at_call 26; refine (meter_fits b o room used n _ (by simpa using h0) (by simpa using h1) hu hr hm).mono ?_; rintro e w' ⟨k, rfl, rfl⟩)
      go_ret
      exact Drew.intro _ rfl rfl

def giveR (used n : Int) : Int × Int := if n < 0 then (1, used) else if used < n then (1, used) else (0, used - n)
theorem meter_give (b o : Nat) (used n : Int) (w : World) (h1 : w.cell? ⟨b, o + 1, none⟩ = some (.int .i64 (used)))
    (hf : w.frozen? ⟨b, o + 1, none⟩ = false) (hu : 0 ≤ used) (hm : used ≤ 9223372036854775807) :
    Calls Try.prog 24 #[.pointer (some ⟨b, o, none⟩), .int .i64 (n)] w (Drew (.int .i64 ((giveR used n).1)) (w.setCell ⟨b, o + 1, none⟩ (.int .i64 ((giveR used n).2)))) := by
  by_cases c : n < 0
  · have e : giveR used n = (1, used) := by simp [giveR, c]
    rw [e, setCell_same h1]
    clear e
    (go_enter Try.func24, Try.ntmps24)
    go_wp2
    go_ret
    exact Drew.intro0 rfl rfl
  · by_cases d : used < n
    · have e : giveR used n = (1, used) := by simp [giveR, c, d]
      rw [e, setCell_same h1]
      clear e
      (go_enter Try.func24, Try.ntmps24)
      go_wp2
      go_ret
      exact Drew.intro0 rfl rfl
    · have e : giveR used n = (0, used - n) := by simp [giveR, c, d]
      rw [e]
      clear e
      (go_enter Try.func24, Try.ntmps24)
      go_wp2
      go_ret
      exact Drew.intro0 rfl rfl


theorem meter_used (b o : Nat) (used : Int) (w : World) (h1 : w.cell? ⟨b, o + 1, none⟩ = some (.int .i64 (used))) :
    Calls Try.prog 8 #[.pointer (some ⟨b, o, none⟩)] w (Drew (.int .i64 (used)) w) := by
  (go_enter Try.func8, Try.ntmps8)
  go_wp2
  go_ret
  exact Drew.intro0 rfl rfl





def tryR (lost : Bool) (fail : Int) : Int × Int := if lost then (14, fail) else if 0 < fail then (if fail = 1 then (8, 0) else (0, fail - 1)) else (0, fail)
theorem tryR_more {f g : Int} (h : 2 ≤ f) (e : g = f - 1) : tryR false f = (0, g) := by
  subst e
  unfold tryR
  rw [if_neg (by decide), if_pos (by omega), if_neg (by omega)]
theorem tryR_one {f : Int} (h : f = 1) : tryR false f = (8, 0) := by subst h; decide
theorem tryR_none {f : Int} (h : f ≤ 0) : tryR false f = (0, f) := by
  unfold tryR
  rw [if_neg (by decide), if_neg (by omega)]
theorem luck_try (b o : Nat) (lost : Bool) (fail : Int) (w : World) (h0 : w.cell? ⟨b, o, none⟩ = some (.bool lost)) (h1 : w.cell? ⟨b, o + 1, none⟩ = some (.int .i64 (fail))) (hf : w.frozen? ⟨b, o + 1, none⟩ = false) (hm : fail ≤ 1073741825) :
    Calls Try.prog 17 #[.pointer (some ⟨b, o, none⟩)] w (Drew (.int .i64 ((tryR lost fail).1)) (w.setCell ⟨b, o + 1, none⟩ (.int .i64 ((tryR lost fail).2)))) := by
  cases lost with
  | true =>
    have e : tryR true fail = (14, fail) := by simp [tryR]
    rw [e, setCell_same h1]
    clear e
    (go_enter Try.func17, Try.ntmps17)
    go_wp2
    go_ret
    exact Drew.intro0 rfl rfl
  | false =>
    by_cases c : 0 < fail
    · by_cases d : fail = 1
      · have e : tryR false fail = (8, 0) := by simp [tryR, d]
        rw [e]
        clear e
        subst d
        (go_enter Try.func17, Try.ntmps17)
        go_wp2
        go_ret
        exact Drew.intro0 rfl rfl
      · have e : tryR false fail = (0, fail - 1) := by simp [tryR, c, d]
        rw [e]
        clear e
        have c2 : 2 ≤ fail := by omega
        (go_enter Try.func17, Try.ntmps17)
        go_wp2
        go_ret
        exact Drew.intro0 rfl rfl
    · have e : tryR false fail = (0, fail) := by simp [tryR, c]
      rw [e, setCell_same h1]
      clear e
      (go_enter Try.func17, Try.ntmps17)
      go_wp2
      go_ret
      exact Drew.intro0 rfl rfl

/-! ### The same of a block that is known whole: the meter's two cells from o on, the luck's two from o on. -/
/-- v is handed back; block b is now cs; nothing else has turned. -/
def Now (v : Value) (w : World) (b : Nat) (cs : Array Value) (T : TypeId) (e : Ending) (w' : World) : Prop := e = .returned v ∧ Blk w' b cs T ∧ Only (· = b) w w'

theorem Now.of_set {v : Value} {w : World} {b o : Nat} {cs : Array Value} {T : TypeId} {x : Value} {e : Ending} {w' : World} (hb : Blk w b cs T)
    (h : Drew v (w.setCell ⟨b, o, none⟩ x) e w') : Now v w b (cs.setIfInBounds o x) T e w' := by
  obtain ⟨k, he, rfl⟩ := h
  exact ⟨he, (hb.set o x).drewN k, ((Only.refl (· = b) w).setCell ⟨b, o, none⟩ x (fun _ => rfl)).drewN k⟩
theorem Now.of_same {v : Value} {w : World} {b : Nat} {cs : Array Value} {T : TypeId} {e : Ending} {w' : World} (hb : Blk w b cs T)
    (h : Drew v w e w') : Now v w b cs T e w' := by
  obtain ⟨k, he, rfl⟩ := h
  exact ⟨he, hb.drewN k, (Only.refl _ _).drewN k⟩

section
variable (b o : Nat) (cs : Array Value) (T : TypeId) (w : World)
theorem fits_blk (room used n : Int) (hb : Blk w b cs T) (h0 : cs[o]? = some (.int .i64 (room))) (h1 : cs[o + 1]? = some (.int .i64 (used))) (hu : 0 ≤ used) (hr : used ≤ room) (hm : room ≤ 9223372036854775807) :
    Calls Try.prog 26 #[.pointer (some ⟨b, o, none⟩), .int .i64 (n)] w (Now (.bool (decide (n ≤ room - used))) w b cs T) :=
  (meter_fits b o room used n w ((hb.cell _).trans h0) ((hb.cell _).trans h1) hu hr hm).mono fun _ _ h => Now.of_same hb h
theorem take_blk (room used n : Int) (hb : Blk w b cs T) (h0 : cs[o]? = some (.int .i64 (room))) (h1 : cs[o + 1]? = some (.int .i64 (used))) (hu : 0 ≤ used) (hr : used ≤ room) (hm : room ≤ 9223372036854775807)
    (a u : Int) (cs' : Array Value) (hq : takeR room used n = (a, u)) (hc : cs.setIfInBounds (o + 1) (.int .i64 (u)) = cs') :
    Calls Try.prog 23 #[.pointer (some ⟨b, o, none⟩), .int .i64 (n)] w (Now (.int .i64 (a)) w b cs' T) :=
  (meter_take b o room used n w ((hb.cell _).trans h0) ((hb.cell _).trans h1) (hb.frozen _) hu hr hm).mono fun _ _ h => by rw [hq] at h; exact hc ▸ Now.of_set hb h
theorem give_blk (used n : Int) (hb : Blk w b cs T) (h1 : cs[o + 1]? = some (.int .i64 (used))) (hu : 0 ≤ used) (hm : used ≤ 9223372036854775807)
    (a u : Int) (cs' : Array Value) (hq : giveR used n = (a, u)) (hc : cs.setIfInBounds (o + 1) (.int .i64 (u)) = cs') :
    Calls Try.prog 24 #[.pointer (some ⟨b, o, none⟩), .int .i64 (n)] w (Now (.int .i64 (a)) w b cs' T) :=
  (meter_give b o used n w ((hb.cell _).trans h1) (hb.frozen _) hu hm).mono fun _ _ h => by rw [hq] at h; exact hc ▸ Now.of_set hb h
theorem used_blk (used : Int) (hb : Blk w b cs T) (h1 : cs[o + 1]? = some (.int .i64 (used))) : Calls Try.prog 8 #[.pointer (some ⟨b, o, none⟩)] w (Now (.int .i64 (used)) w b cs T) :=
  (meter_used b o used w ((hb.cell _).trans h1)).mono fun _ _ h => Now.of_same hb h
theorem try_blk (lost : Bool) (fail : Int) (hb : Blk w b cs T) (h0 : cs[o]? = some (.bool lost)) (h1 : cs[o + 1]? = some (.int .i64 (fail))) (hm : fail ≤ 1073741825)
    (a f : Int) (cs' : Array Value) (hq : tryR lost fail = (a, f)) (hc : cs.setIfInBounds (o + 1) (.int .i64 (f)) = cs') :
    Calls Try.prog 17 #[.pointer (some ⟨b, o, none⟩)] w (Now (.int .i64 (a)) w b cs' T) :=
  (luck_try b o lost fail w ((hb.cell _).trans h0) ((hb.cell _).trans h1) (hb.frozen _) hm).mono fun _ _ h => by rw [hq] at h; exact hc ▸ Now.of_set hb h
end


end Go.Proofs.Ytloimgmifalpnaa
