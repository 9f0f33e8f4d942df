/- The calls of a volume, where a law holds rows of its own beside it: these stay. No condition. -/
import Derived.Test.YtdgaknpocbnomaaReel10
set_option linter.unusedSimpArgs false
set_option linter.unusedVariables false
namespace Go.Proofs.Ytdgaknpocbnomaa
open Go.RowKit
set_option maxHeartbeats 1000000

/-- own rows of other types stay; nothing goes -/
structure Keeps (w w' : World) : Prop where
  size : w.heap.size ≤ w'.heap.size
  own : ∀ (base : Nat) (e : TypeId) (sz n : Nat) (v : Value) (xs : List Value), e ≠ 72 → e ≠ 36 → w.ownsRow base e sz v n xs → w'.ownsRow base e sz v n xs
theorem Keeps.of {w w' : World} {base b : Nat} {v : Value} {x x' : Vol} (h : RelV w base b v x) (k : RelTo w base b x' w') : Keeps w w' := by
  obtain ⟨_, _, ho⟩ := k
  refine ⟨ho.size, ?_⟩
  intro base' e sz n u xs he1 he2 hown
  refine own_keep hown ho (fun g hg hs => ?_)
  rcases hown.2 with ⟨rfl, _⟩ | ⟨g', cap, cur, rfl, _, hh, _⟩
  · cases hg
  · have hgg : g' = g := by simpa [Value.ownBlock] using hg
    subst hgg
    rcases hs with rfl | ⟨_, cs, fr, h2⟩
    · have hb := h.blk
      unfold Blk at hb
      rw [hh] at hb
      injection hb with hb
      injection hb with _ hb _
      exact he2 hb
    · rw [hh] at h2
      injection h2 with h2
      injection h2 with _ h2 _
      exact he1 h2
theorem Keeps.below {w w' : World} (h : Below w.heap.size w w') : Keeps w w' := ⟨h.size, fun base e sz n v xs _ _ ho => own_keep ho (only_of_below h (fun _ => False)) (fun _ _ e => e)⟩
theorem Keeps.refl (w : World) : Keeps w w := ⟨Nat.le_refl _, fun _ _ _ _ _ _ _ _ h => h⟩
theorem Keeps.trans {a b c : World} (h : Keeps a b) (k : Keeps b c) : Keeps a c := ⟨Nat.le_trans h.size k.size, fun base e sz n v xs h1 h2 ho => k.own base e sz n v xs h1 h2 (h.own base e sz n v xs h1 h2 ho)⟩
theorem Keeps.app {w wr w' : World} {S : Nat → Prop} (hK : Keeps w wr) (k : Only S wr w') (hS : ∀ g, S g → w.heap.size ≤ g) : Keeps w w' :=
  ⟨Nat.le_trans hK.size k.size, fun base e sz n v xs h1 h2 ho => own_keep (hK.own base e sz n v xs h1 h2 ho) k (fun g hg hs => by have := (ho.lt g hg).2; have := hS g hs; omega)⟩
section
variable {W w : World} {base b : Nat} {x : Vol}
theorem rk_Write (h : RV W w base b x) (s : ByteArray) (hs : s.size ≤ 1000000) (hl : x.bl.length < 1000000) :
    Calls Try.prog 12 #[.pointer (some ⟨b, 0, none⟩), .string s] w (fun e w' => e = .returned (.int .i64 ((x.write ⟨s, false, false⟩).1)) ∧ RV W w' base b (x.write ⟨s, false, false⟩).2 ∧ Keeps w w') := by
  obtain ⟨v, hv⟩ := h.ex
  exact (reel_Write x h.ok s hs base b v w hv).mono fun e w' ⟨he, hr⟩ => ⟨he, h.step hr (h.ok.write _ hs hl), Keeps.of hv hr⟩
theorem rk_Mark (h : RV W w base b x) (hl : x.bl.length < 1000000) :
    Calls Try.prog 17 #[.pointer (some ⟨b, 0, none⟩)] w (fun e w' => e = .returned (.int .i64 ((x.write ⟨⟨#[]⟩, true, false⟩).1)) ∧ RV W w' base b (x.write ⟨⟨#[]⟩, true, false⟩).2 ∧ Keeps w w') := by
  obtain ⟨v, hv⟩ := h.ex
  exact (reel_Mark x h.ok base b v w hv).mono fun e w' ⟨he, hr⟩ => ⟨he, h.step hr (h.ok.write _ (by decide) hl), Keeps.of hv hr⟩
theorem rk_Flush (h : RV W w base b x) : Calls Try.prog 19 #[.pointer (some ⟨b, 0, none⟩)] w (fun e w' => e = .returned (.int .i64 (x.flush.1)) ∧ RV W w' base b x.flush.2 ∧ Keeps w w') := by
  obtain ⟨v, hv⟩ := h.ex
  exact (reel_Flush x h.ok base b v w hv).mono fun e w' ⟨he, hr⟩ => ⟨he, h.step hr h.ok.flush, Keeps.of hv hr⟩
theorem rk_Seek (h : RV W w base b x) (n : Int) (hn : -9223372036854775808 ≤ n ∧ n ≤ 9223372036854775807) : Calls Try.prog 15 #[.pointer (some ⟨b, 0, none⟩), .int .i64 (n)] w (fun e w' => e = .returned (.int .i64 ((x.seek n).1)) ∧ RV W w' base b (x.seek n).2 ∧ Keeps w w') := by
  obtain ⟨v, hv⟩ := h.ex
  exact (reel_Seek x h.ok n hn base b v w hv).mono fun e w' ⟨he, hr⟩ => ⟨he, h.step hr (h.ok.seek n), Keeps.of hv hr⟩
theorem rk_Skip (h : RV W w base b x) : Calls Try.prog 18 #[.pointer (some ⟨b, 0, none⟩)] w (fun e w' => e = .returned (.int .i64 (x.skip.1)) ∧ RV W w' base b x.skip.2 ∧ Keeps w w') := by
  obtain ⟨v, hv⟩ := h.ex
  exact (reel_Skip x h.ok base b v w hv).mono fun e w' ⟨he, hr⟩ => ⟨he, h.step hr h.ok.skip, Keeps.of hv hr⟩
theorem rk_Trim (h : RV W w base b x) : Calls Try.prog 21 #[.pointer (some ⟨b, 0, none⟩)] w (fun e w' => e = .returned (.int .i64 (x.trim.1)) ∧ RV W w' base b x.trim.2 ∧ Keeps w w') := by
  obtain ⟨v, hv⟩ := h.ex
  exact (reel_Trim x h.ok base b v w hv h.hi).mono fun e w' ⟨he, hr⟩ => ⟨he, h.step hr h.ok.trim, Keeps.of hv hr⟩
theorem rk_Read (h : RV W w base b x) :
    Calls Try.prog 23 #[.pointer (some ⟨b, 0, none⟩)] w (fun e w' => e = .returned (.tuple #[.string x.read.1.1, .bool x.read.1.2.1, .int .i64 (x.read.1.2.2)]) ∧ RV W w' base b x.read.2 ∧ Keeps w w') := by
  obtain ⟨v, hv⟩ := h.ex
  exact (reel_Read x h.ok base b v w hv).mono fun e w' ⟨he, hr⟩ => ⟨he, h.step hr h.ok.read, Keeps.of hv hr⟩
theorem rk_Crash (h : RV W w base b x) (ch : List Int) (hwf : ∀ c ∈ ch, (Lit.int .i64 c).wf = true) (vch : Value) (len : Nat) (hch : Sl w vch len 1 (ch.map (.int .i64))) (hl : x.bl.length < 1000000) :
    Calls Try.prog 20 #[.pointer (some ⟨b, 0, none⟩), vch] w (fun e w' => e = .returned (.tuple #[]) ∧ RV W w' base b (x.crash ch) ∧ Keeps w w') := by
  obtain ⟨v, hv⟩ := h.ex
  exact (reel_Crash x h.ok ch hwf vch len base b v w hch hv h.hi).mono fun e w' ⟨he, hr⟩ => ⟨he, h.step hr (h.ok.crash ch hl), Keeps.of hv hr⟩
/-- an append to an own row of another type (or any new block) leaves the volume as it was -/
theorem RV.only {S : Nat → Prop} {w' : World} (h : RV W w base b x) (k : Only S w w') (hb : ¬ S b) (hs : ∀ g cs fr, w.heap[g]? = some (.cells cs 72 fr) → ¬ S g) (hW : ∀ g, S g → W.heap.size ≤ g) : RV W w' base b x := by
  obtain ⟨v, hv⟩ := h.ex
  refine ⟨⟨v, hv.blk.keep k hb, own_keep hv.own k (fun g hg hS => ?_), Nat.le_trans hv.le k.size⟩, h.bel.trans (k.below h.bel.size (fun q hq hS => by have := hW q hS; omega)), h.lo, h.hi, h.ok⟩
  rcases hv.own.2 with ⟨e, _⟩ | ⟨g', _, _, e, _, hh, _⟩
  · rw [e] at hg; cases hg
  · rw [e] at hg
    have hgg : g' = g := by simpa [Value.ownBlock] using hg
    subst hgg
    exact hs _ _ _ hh hS
/-- an append to an own row of another type -/
theorem RV.appended {w' : World} {e : TypeId} {sz n base' : Nat} {v : Value} {xs : List Value} (h : RV W w base b x) (ho : w.ownsRow base' e sz v n xs) (he1 : e ≠ 72) (he2 : e ≠ 36) (hb' : W.heap.size ≤ base') (k : Only (fun g => v.ownBlock = some g) w w') : RV W w' base b x := by
  obtain ⟨u, hu⟩ := h.ex
  refine h.only k (own_ne ho hu.blk (fun e' => he2 e'.symm)) ?_ (fun g hg => by have := own_ge ho g hg; omega)
  intro g cs fr hh hg
  rcases ho.2 with ⟨rfl, _⟩ | ⟨g', _, _, rfl, _, hh2, _⟩
  · cases hg
  · have hgg : g' = g := by simpa [Value.ownBlock] using hg
    subst hgg
    rw [hh2] at hh
    injection hh with hh
    injection hh with _ hh _
    exact he1 hh
end
/-- the places behind the marks, from n on -/
def endsOf : List Bk → Nat → List Nat
  | [], _ => []
  | k :: l, n => if k.mark = true then (n + 1) :: endsOf l (n + 1) else endsOf l (n + 1)
theorem endsOf_snoc (l : List Bk) (k : Bk) (n : Nat) : endsOf (l ++ [k]) n = endsOf l n ++ (if k.mark = true then [n + l.length + 1] else []) := by
  induction l generalizing n with
  | nil => simp [endsOf]
  | cons a l ih =>
    simp only [List.cons_append, endsOf, ih, List.length_cons]
    split <;> split <;> simp <;> omega
theorem markFrom_ends (l : List Bk) (n : Nat) : markFrom l n = (endsOf l n).head? := by
  induction l generalizing n with
  | nil => rfl
  | cons a l ih =>
    rw [markFrom, endsOf]
    split
    · rfl
    · exact ih _
/-- behind the first mark the other marks are left -/
theorem endsOf_next (l : List Bk) (n m : Nat) (E : List Nat) (h : endsOf l n = m :: E) : n < m ∧ m ≤ n + l.length ∧ endsOf (l.drop (m - n)) m = E := by
  induction l generalizing n with
  | nil => cases h
  | cons a l ih =>
    rw [endsOf] at h
    split at h
    · injection h with h1 h2
      subst h1
      refine ⟨by omega, by simp only [List.length_cons]; omega, ?_⟩
      rw [show n + 1 - n = 1 by omega]
      exact h2
    · obtain ⟨h1, h2, h3⟩ := ih _ h
      refine ⟨by omega, by simp only [List.length_cons]; omega, ?_⟩
      rw [show m - n = (m - (n + 1)) + 1 by omega]
      exact h3
theorem ends_step (L : List Bk) (p m : Nat) (E : List Nat) (hp : p ≤ L.length) (h : endsOf (L.drop p) p = m :: E) : m ≤ L.length ∧ endsOf (L.drop m) m = E := by
  obtain ⟨h1, h2, h3⟩ := endsOf_next _ _ _ _ h
  rw [List.length_drop] at h2
  refine ⟨by omega, ?_⟩
  rw [List.drop_drop, show p + (m - p) = m by omega] at h3
  exact h3
end Go.Proofs.Ytdgaknpocbnomaa
