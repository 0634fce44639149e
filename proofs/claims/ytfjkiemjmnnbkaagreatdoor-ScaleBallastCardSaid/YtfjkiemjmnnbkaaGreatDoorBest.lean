/-
  The least weight that has to be added. Plain laws.
-/
import Derived.Test.YtfjkiemjmnnbkaaGreatDoorPl
import Derived.Test.YtfjkiemjmnnbkaaGreatDoorPl
namespace Kr

theorem lexB_asymm : ∀ {a b : List Nat}, lexB a b = true → lexB b a = false
  | [], _, h => by simp [lexB] at h
  | _ :: _, [], h => by simp [lexB] at h
  | a :: as, b :: bs, h => by
    unfold lexB at h ⊢
    by_cases e : a = b
    · rw [if_pos e] at h; rw [if_pos e.symm]; exact lexB_asymm h
    · rw [if_neg e] at h; rw [if_neg (fun x => e x.symm)]; simp at h ⊢; omega
theorem lexB_trans : ∀ {a b c : List Nat}, lexB a b = true → lexB b c = true → lexB a c = true
  | [], _, _, h, _ => by simp [lexB] at h
  | _ :: _, [], _, h, _ => by simp [lexB] at h
  | _ :: _, _ :: _, [], _, h => by simp [lexB] at h
  | a :: as, b :: bs, c :: cs, h1, h2 => by
    unfold lexB at h1 h2 ⊢
    by_cases e1 : a = b
    · subst e1
      rw [if_pos rfl] at h1
      by_cases e2 : a = c
      · rw [if_pos e2] at h2 ⊢; exact lexB_trans h1 h2
      · rw [if_neg e2] at h2 ⊢; exact h2
    · rw [if_neg e1] at h1
      simp at h1
      by_cases e2 : b = c
      · subst e2; rw [if_neg e1]; simpa using h1
      · rw [if_neg e2] at h2
        simp at h2
        rw [if_neg (by omega)]; simp; omega
theorem lexB_total : ∀ {a b : List Nat}, a.length = b.length → lexB a b = false → lexB b a = false → a = b
  | [], [], _, _, _ => rfl
  | [], _ :: _, h, _, _ => by simp at h
  | _ :: _, [], h, _, _ => by simp at h
  | a :: as, b :: bs, h, h1, h2 => by
    unfold lexB at h1 h2
    by_cases e : a = b
    · rw [if_pos e] at h1; rw [if_pos e.symm] at h2
      rw [e, lexB_total (by simpa using h) h1 h2]
    · rw [if_neg e] at h1; rw [if_neg (fun x => e x.symm)] at h2
      simp at h1 h2; omega
theorem lessC_asymm {a b : Choice} (h : lessC a b = true) : lessC b a = false := by
  unfold lessC beforeB at h ⊢
  by_cases e : a.weight = b.weight
  · rw [if_neg (by simp [e])] at h; rw [if_neg (by simp [e])]
    by_cases e2 : a.pieces.length = b.pieces.length
    · rw [if_neg (by simp [e2])] at h; rw [if_neg (by simp [e2])]; exact lexB_asymm h
    · rw [if_pos e2] at h; rw [if_pos (fun x => e2 x.symm)]; simp at h ⊢; omega
  · rw [if_pos e] at h; rw [if_pos (fun x => e x.symm)]; simp at h ⊢; omega
theorem lessC_trans {a b c : Choice} (h1 : lessC a b = true) (h2 : lessC b c = true) : lessC a c = true := by
  unfold lessC beforeB at h1 h2 ⊢
  by_cases e1 : a.weight = b.weight
  · rw [if_neg (by simp [e1])] at h1
    by_cases e2 : b.weight = c.weight
    · rw [if_neg (by simp [e2])] at h2; rw [if_neg (by simp [e1, e2])]
      by_cases e3 : a.pieces.length = b.pieces.length
      · rw [if_neg (by simp [e3])] at h1
        by_cases e4 : b.pieces.length = c.pieces.length
        · rw [if_neg (by simp [e4])] at h2; rw [if_neg (by simp [e3, e4])]; exact lexB_trans h1 h2
        · rw [if_pos e4] at h2; rw [if_pos (by omega)]; simp at h2 ⊢; omega
      · rw [if_pos e3] at h1; simp at h1
        by_cases e4 : b.pieces.length = c.pieces.length
        · rw [if_pos (by omega)]; simp; omega
        · rw [if_pos e4] at h2; simp at h2; rw [if_pos (by omega)]; simp; omega
    · rw [if_pos e2] at h2; simp at h2; rw [if_pos (by omega)]; simp; omega
  · rw [if_pos e1] at h1; simp at h1
    by_cases e2 : b.weight = c.weight
    · rw [if_pos (by omega)]; simp; omega
    · rw [if_pos e2] at h2; simp at h2; rw [if_pos (by omega)]; simp; omega
theorem lessC_not_trans {a b c : Choice} (h1 : lessC b a = false) (h2 : lessC c b = false) : lessC c a = false := by
  cases h : lessC c a with
  | false => rfl
  | true =>
    exfalso
    cases h3 : lessC b c with
    | true => rw [lessC_trans h3 h] at h1; cases h1
    | false =>
      have e : b = c := by
        unfold lessC beforeB at h3 h2
        by_cases e : b.weight = c.weight
        · rw [if_neg (by simp [e])] at h3 h2
          by_cases e2 : b.pieces.length = c.pieces.length
          · rw [if_neg (by simp [e2])] at h3 h2
            have := lexB_total e2 h3 h2
            cases b; cases c; simp_all
          · rw [if_pos e2] at h3; rw [if_pos (by omega)] at h2; simp at h3 h2; omega
        · rw [if_pos e] at h3; rw [if_pos (by omega)] at h2; simp at h3 h2; omega
      rw [e, h] at h1; cases h1
theorem lessC_self (b : Choice) : lessC b b = false := by
  cases h : lessC b b with
  | false => rfl
  | true =>
    have := lessC_asymm h
    rw [h] at this
    cases this
theorem best_least : ∀ (l : List Choice) (b0 b : Choice), l.foldl better (some b0) = some b → (b = b0 ∨ b ∈ l) ∧ lessC b0 b = false ∧ ∀ c ∈ l, lessC c b = false := by
  intro l
  induction l with
  | nil =>
    intro b0 b h
    cases h
    exact ⟨.inl rfl, lessC_self b0, fun c hc => by cases hc⟩
  | cons x l ih =>
    intro b0 b h
    rw [List.foldl_cons] at h
    by_cases hx : lessC x b0 = true
    · rw [show better (some b0) x = some x from if_pos hx] at h
      obtain ⟨h1, h2, h3⟩ := ih x b h
      refine ⟨.inr ?_, lessC_not_trans h2 (lessC_asymm hx), fun c hc => ?_⟩
      · rcases h1 with rfl | h1
        · exact List.mem_cons_self ..
        · exact List.mem_cons_of_mem _ h1
      · rcases List.mem_cons.1 hc with rfl | hc
        · exact h2
        · exact h3 c hc
    · rw [show better (some b0) x = some b0 from if_neg hx] at h
      obtain ⟨h1, h2, h3⟩ := ih b0 b h
      refine ⟨?_, h2, fun c hc => ?_⟩
      · rcases h1 with rfl | h1
        · exact .inl rfl
        · exact .inr (List.mem_cons_of_mem _ h1)
      · rcases List.mem_cons.1 hc with rfl | hc
        · exact lessC_not_trans h2 (by simpa using hx)
        · exact h3 c hc
theorem bestOf_least {n : Norm} {l : List Span} {pieces : List Int} {k : Nat} {b : Choice} (h : bestOf n l pieces k = some b) : (∃ i < k, b = choiceOf pieces i ∧ fitsC n l b = true) ∧ ∀ i < k, fitsC n l (choiceOf pieces i) = true → lessC (choiceOf pieces i) b = false := by
  have hm : ∀ c, c ∈ choices n l pieces k ↔ ∃ i < k, c = choiceOf pieces i ∧ fitsC n l c = true := by
    intro c
    unfold choices
    rw [List.mem_filter, List.mem_map]
    constructor
    · rintro ⟨⟨i, hi, rfl⟩, h⟩; exact ⟨i, List.mem_range.1 hi, rfl, h⟩
    · rintro ⟨i, hi, rfl, h⟩; exact ⟨⟨i, List.mem_range.2 hi, rfl⟩, h⟩
  have hl : ∀ i < k, fitsC n l (choiceOf pieces i) = true → choiceOf pieces i ∈ choices n l pieces k := fun i hi hf => (hm _).2 ⟨i, hi, rfl, hf⟩
  unfold bestOf at h
  cases hc : choices n l pieces k with
  | nil => rw [hc] at h; cases h
  | cons x xs =>
    rw [hc, List.foldl_cons] at h
    obtain ⟨h1, h2, h3⟩ := best_least xs x b h
    refine ⟨(hm b).1 ?_, fun i hi hf => ?_⟩
    · rw [hc]
      rcases h1 with rfl | h1
      · exact List.mem_cons_self ..
      · exact List.mem_cons_of_mem _ h1
    · have := hl i hi hf
      rw [hc] at this
      rcases List.mem_cons.1 this with e | e
      · rw [e]; exact h2
      · exact h3 _ e
theorem bestOf_none {n : Norm} {l : List Span} {pieces : List Int} {k : Nat} (h : bestOf n l pieces k = none) : ∀ i < k, fitsC n l (choiceOf pieces i) = false := by
  intro i hi
  cases hf : fitsC n l (choiceOf pieces i) with
  | false => rfl
  | true =>
    exfalso
    have h1 := better_none.1 h
    have h2 : choiceOf pieces i ∈ choices n l pieces k := List.mem_filter.2 ⟨List.mem_map.2 ⟨i, List.mem_range.2 hi, rfl⟩, hf⟩
    rw [h1] at h2; cases h2

/-- A sled passes with some weight added, by its weight and by what was added. -/
def passR (b : List Scale) (g : Gear) (n : Norm) (a : Int) : Bool := (judgeR b { g with added := a } n).2 == 0 && ((judgeR b { g with added := a } n).1.1.getD 0 0 == 2 && (judgeR b { g with added := a } n).1.1.getD 1 0 == 2)
theorem neat_both {l : List Span} (hn : Neat l) (hne : l ≠ []) {lo hi : Int} : (∀ s ∈ l, lo ≤ s.lo ∧ s.hi ≤ hi) ↔ lo ≤ (l.headD ⟨0, 0⟩).lo ∧ (l.getLastD ⟨0, 0⟩).hi ≤ hi := by
  constructor
  · intro h
    cases l with
    | nil => exact absurd rfl hne
    | cons s l => exact ⟨(h s (List.mem_cons_self ..)).1, by rw [List.getLastD_cons]; exact (h _ (by rw [List.getLastD_eq_getLast?]; cases l with | nil => simp | cons t l => rw [List.getLast?_eq_some_getLast (by simp)]; exact List.mem_cons_of_mem _ (List.getLast_mem _))).2⟩
  · intro ⟨h1, h2⟩ s hs
    obtain ⟨i, hi, rfl⟩ := List.mem_iff_getElem.1 hs
    have hp := List.pairwise_iff_getElem.1 hn.2
    have hf := hn.1
    have e1 : l.headD ⟨0, 0⟩ = l[0]'(by omega) := by cases l with | nil => simp at hi | cons s l => rfl
    have e2 : l.getLastD ⟨0, 0⟩ = l[l.length - 1]'(by omega) := by
      rw [List.getLastD_eq_getLast?, List.getLast?_eq_getElem?, List.getElem?_eq_getElem (by omega)]; rfl
    rw [e1] at h1
    rw [e2] at h2
    have f0 := hf _ (List.getElem_mem (show 0 < l.length by omega))
    have f1 := hf _ (List.getElem_mem hi)
    have f2 := hf _ (List.getElem_mem (show l.length - 1 < l.length by omega))
    constructor
    · by_cases h0 : i = 0
      · subst h0; exact h1
      · have := hp 0 i (by omega) hi (by omega); omega
    · by_cases h0 : i = l.length - 1
      · subst h0; exact h2
      · have := hp i (l.length - 1) hi (by omega) (by omega); omega
theorem shift_ends {a : Int} {l : List Span} (hne : l ≠ []) : ((shift a l).headD ⟨0, 0⟩).lo = (l.headD ⟨0, 0⟩).lo + a ∧ ((shift a l).getLastD ⟨0, 0⟩).hi = (l.getLastD ⟨0, 0⟩).hi + a := by
  unfold shift
  constructor
  · cases l with
    | nil => exact absurd rfl hne
    | cons s l => rfl
  · rw [List.getLastD_eq_getLast?, List.getLastD_eq_getLast?, List.getLast?_map]
    cases h : l.getLast? with
    | none => exact absurd (List.getLast?_eq_none_iff.1 h) hne
    | some s => rfl
theorem check_added {b : List Scale} {g : Gear} (h : check b g = 0) {a : Int} (ha : 0 ≤ a ∧ a ≤ 1000000) : check b { g with added := a, strokes := [] } = 0 := by
  obtain ⟨hb, hg⟩ := check_zero h
  unfold check
  rw [if_pos hb, if_pos]
  simp only [gearOk, bare, inb, inAll, Bool.and_eq_true, decide_eq_true_eq, List.all_nil, List.length_nil] at hg ⊢
  obtain ⟨h1, ⟨⟨⟨⟨h2, h3⟩, h4⟩, h5⟩, h6⟩, h7⟩ := hg
  exact ⟨h1, ⟨⟨⟨⟨ha, h3⟩, h4⟩, h5⟩, trivial, by omega⟩, h7⟩
theorem pass_fits {b : List Scale} {g : Gear} {n : Norm} (h : check b g = 0) (hs : g.strokes = []) (hn : normB n = true) (ht : totals b { g with added := 0 } ≠ []) (c : Choice) (hc : 0 ≤ c.weight ∧ c.weight ≤ 1000000) : passR b g n c.weight = fitsC n (totals b { g with added := 0 }) c := by
  have hck : check b { g with added := c.weight } = 0 := by
    have := check_added h hc
    rwa [show ({ g with added := c.weight, strokes := [] } : Gear) = { g with added := c.weight } by rw [← hs]] at this
  have e : totals b { g with added := c.weight } = shift c.weight (totals b { g with added := 0 }) := by
    have := totals_shift b { g with added := 0 } c.weight
    simpa using this
  have hne : totals b { g with added := c.weight } ≠ [] := by
    rw [e]; unfold shift; intro h; exact ht (List.map_eq_nil_iff.1 h)
  have hb := gearOk_bare (check_zero hck).2
  have hh : (hard { g with added := c.weight }).2 = 0 := by
    unfold hard hardOf
    rw [if_pos hb]
    dsimp only
    rw [hs]
    simp
  unfold passR judgeR
  rw [if_neg (by simp [hck]), if_neg (by simp [hn]), if_neg hne, if_neg (by simp [hh])]
  unfold partsJ fitsC
  simp only [List.getD_cons_zero, List.getD_cons_succ, beq_self_eq_true, Bool.true_and]
  have hnt : n.total.lo ≤ n.total.hi := by simp [normB, ordered] at hn; omega
  rw [Bool.eq_iff_iff, Bool.and_eq_true, Bool.and_eq_true]
  simp only [beq_iff_eq, decide_eq_true_eq]
  have k1 : knownR (totals b { g with added := c.weight }) n.total = 2 ↔ n.total.lo ≤ (totals b { g with added := 0 } |>.headD ⟨0, 0⟩).lo + c.weight ∧ (totals b { g with added := 0 } |>.getLastD ⟨0, 0⟩).hi + c.weight ≤ n.total.hi := by
    rw [← (shift_ends ht).1, ← (shift_ends ht).2, ← e, ← neat_both (totals_neat _ _) hne]
    unfold knownR
    constructor
    · intro h
      split at h
      · rename_i h1
        rw [List.all_eq_true] at h1
        intro s hs
        have := h1 s hs
        simp at this
        exact this
      · split at h <;> omega
    · intro h
      rw [if_pos]
      rw [List.all_eq_true]
      intro s hs
      have := h s hs
      simp; exact this
  have k2 : sureR (decide (c.weight ≤ n.added)) = 2 ↔ c.weight ≤ n.added := by
    by_cases h : c.weight ≤ n.added <;> simp [sureR, h]
  rw [k1, k2]
  have hle : (totals b { g with added := 0 } |>.headD ⟨0, 0⟩).lo ≤ (totals b { g with added := 0 } |>.getLastD ⟨0, 0⟩).hi := by
    have h1 := (neat_both (totals_neat b { g with added := 0 }) ht (lo := (totals b { g with added := 0 } |>.headD ⟨0, 0⟩).lo) (hi := (totals b { g with added := 0 } |>.getLastD ⟨0, 0⟩).hi)).2 ⟨Int.le_refl _, Int.le_refl _⟩
    cases hl : totals b { g with added := 0 } with
    | nil => exact absurd hl ht
    | cons s l =>
      have h2 := h1 s (by rw [hl]; exact List.mem_cons_self ..)
      have h3 := (totals_neat b { g with added := 0 }).1 s (by rw [hl]; exact List.mem_cons_self ..)
      rw [hl] at h2
      omega
  simp only [inAll, inb, List.all_cons, List.all_nil, Bool.and_true, Bool.and_eq_true, decide_eq_true_eq]
  omega
/-- The others, by the bits of a number, as a list of places. -/
theorem membersN_mod (set n : Nat) : membersN (set % 2 ^ n) n = membersN set n := by
  unfold membersN
  refine List.filter_congr fun i hi => ?_
  have := List.mem_range.1 hi
  rw [Nat.testBit_mod_two_pow]
  simp [this]
theorem choice_mod (pieces : List Int) (set : Nat) : choiceOf pieces (set % 2 ^ pieces.length) = choiceOf pieces set := by
  unfold choiceOf
  rw [membersN_mod]
end Kr
