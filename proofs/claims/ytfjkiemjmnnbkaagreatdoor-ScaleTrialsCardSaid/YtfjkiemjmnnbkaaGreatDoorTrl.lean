/-
  The truths of a scale and what it may show: what the statement on trials asks. Plain laws.
-/
import Derived.Test.YtfjkiemjmnnbkaaGreatDoorSem
namespace Kr

theorem readAt_mono {step w g o o' : Int} (hs : 1 ≤ step) (h : o ≤ o') : readAt step w g o ≤ readAt step w g o' := by
  unfold readAt
  exact Int.mul_le_mul_of_nonneg_right (Int.ediv_le_ediv (by omega) (Int.ediv_le_ediv (by omega) (by omega))) (by omega)
theorem readAt_step (step w g o : Int) : (readAt step w g o).tmod step = 0 := by unfold readAt; exact Int.mul_tmod_left _ _
theorem tune_in {s : Scale} {t : Tune} (h : t ∈ tunes s) : (s.gain.lo ≤ t.gain ∧ t.gain ≤ s.gain.hi) ∧ s.off.lo ≤ t.off.lo ∧ t.off.lo ≤ t.off.hi ∧ t.off.hi ≤ s.off.hi := by
  obtain ⟨h1, h2, h3⟩ := mem_tunes.1 h
  have := offs_in s t.gain
  rw [← h2] at this
  exact ⟨h1, this.1, h3, this.2⟩
theorem tune_true {s : Scale} {t : Tune} (h : t ∈ tunes s) {o : Int} (ho : t.off.lo ≤ o ∧ o ≤ t.off.hi) : trueB s t.gain o = true := by
  obtain ⟨h1, h2, h3⟩ := mem_tunes.1 h
  rw [trueB_iff, ← h2]
  exact ⟨h1, ho⟩
theorem tunesN_inc (s : Scale) (g : Int) : ∀ n, (tunesN s g n).Pairwise fun a b => a.gain < b.gain
  | 0 => List.Pairwise.nil
  | n + 1 => by
    rw [tunesN, List.pairwise_append]
    refine ⟨tunesN_inc s g n, ?_, fun a ha b hb => ?_⟩
    · unfold tuneAt
      split
      · exact List.pairwise_singleton _ _
      · exact List.Pairwise.nil
    · have h1 := (mem_tunesN.1 ha).1
      unfold tuneAt at hb
      split at hb
      · rw [List.mem_singleton.1 hb]; dsimp only; omega
      · cases hb
theorem tunes_inc (s : Scale) {i : Nat} {a b : Tune} (ha : (tunes s)[i]? = some a) (hb : (tunes s)[i + 1]? = some b) : a.gain < b.gain := by
  have h := List.pairwise_iff_getElem.1 (tunesN_inc s s.gain.lo (gainN s))
  obtain ⟨h1, rfl⟩ := List.getElem?_eq_some_iff.1 ha
  obtain ⟨h2, rfl⟩ := List.getElem?_eq_some_iff.1 hb
  exact h i (i + 1) h1 h2 (by omega)
/-- A gain and an offset are told. -/
def toldAt (x y : Int) (l : List Tune) : Bool := l.any fun t => decide (t.gain = x) && (decide (t.off.lo ≤ y) && decide (y ≤ t.off.hi))
theorem told_true (s : Scale) (x y : Int) : toldAt x y (tunes s) = trueB s x y := by
  rw [Bool.eq_iff_iff]
  unfold toldAt
  rw [List.any_eq_true, trueB_iff]
  constructor
  · rintro ⟨t, ht, h⟩
    simp only [Bool.and_eq_true, decide_eq_true_eq] at h
    obtain ⟨h1, h2, h3⟩ := mem_tunes.1 ht
    obtain ⟨rfl, h4⟩ := h
    rw [← h2]
    exact ⟨h1, h4⟩
  · rintro ⟨h1, h2, h3⟩
    exact ⟨⟨x, offs s x⟩, mem_tunes.2 ⟨h1, rfl, by dsimp only; omega⟩, by simp; exact ⟨h2, h3⟩⟩
theorem told_snoc (x y : Int) (l : List Tune) (t : Tune) : toldAt x y (l ++ [t]) = (toldAt x y l || (decide (t.gain = x) && (decide (t.off.lo ≤ y) && decide (y ≤ t.off.hi)))) := by
  simp [toldAt]
/-- Some of the ends shows this number. -/
def endAt (step w n : Int) (l : List Tune) : Bool := l.any fun t => decide (readAt step w t.gain t.off.lo = n) || decide (readAt step w t.gain t.off.hi = n)
theorem endAt_snoc (step w n : Int) (l : List Tune) (t : Tune) : endAt step w n (l ++ [t]) = (endAt step w n l || (decide (readAt step w t.gain t.off.lo = n) || decide (readAt step w t.gain t.off.hi = n))) := by
  simp [endAt]
theorem fold_ends (step w : Int) : ∀ (l : List Tune) (o : Span), ((l.foldl (wider step w) o).lo ≤ o.lo ∧ ∀ t ∈ l, (l.foldl (wider step w) o).lo ≤ (readT step w t).lo) ∧ (o.hi ≤ (l.foldl (wider step w) o).hi ∧ ∀ t ∈ l, (readT step w t).hi ≤ (l.foldl (wider step w) o).hi) ∧
    ((l.foldl (wider step w) o).lo = o.lo ∨ ∃ t ∈ l, (l.foldl (wider step w) o).lo = (readT step w t).lo) ∧ ((l.foldl (wider step w) o).hi = o.hi ∨ ∃ t ∈ l, (l.foldl (wider step w) o).hi = (readT step w t).hi)
  | [], o => by simp
  | t :: l, o => by
    rw [List.foldl_cons]
    obtain ⟨⟨a1, a2⟩, ⟨b1, b2⟩, c, d⟩ := fold_ends step w l (wider step w o t)
    generalize l.foldl (wider step w) (wider step w o t) = r at *
    have e1 : (wider step w o t).lo = min o.lo (readT step w t).lo := rfl
    have e2 : (wider step w o t).hi = max o.hi (readT step w t).hi := rfl
    rw [e1] at a1 c
    rw [e2] at b1 d
    refine ⟨⟨(by clear c d; omega), fun u hu => ?_⟩, ⟨(by clear c d; omega), fun u hu => ?_⟩, ?_, ?_⟩
    · rcases List.mem_cons.1 hu with rfl | hu
      · clear c d; omega
      · exact a2 u hu
    · rcases List.mem_cons.1 hu with rfl | hu
      · clear c d; omega
      · exact b2 u hu
    · clear d
      rcases c with c | ⟨u, hu, c⟩
      · by_cases h : o.lo ≤ (readT step w t).lo
        · exact .inl (by omega)
        · exact .inr ⟨t, List.mem_cons_self .., by omega⟩
      · exact .inr ⟨u, List.mem_cons_of_mem _ hu, c⟩
    · clear c
      rcases d with d | ⟨u, hu, d⟩
      · by_cases h : (readT step w t).hi ≤ o.hi
        · exact .inl (by omega)
        · exact .inr ⟨t, List.mem_cons_self .., by omega⟩
      · exact .inr ⟨u, List.mem_cons_of_mem _ hu, d⟩
theorem readsOf_ends {step w : Int} {l : List Tune} (hne : l ≠ []) : (∀ t ∈ l, (readsOf step w l).lo ≤ (readT step w t).lo ∧ (readT step w t).hi ≤ (readsOf step w l).hi) ∧ (∃ t ∈ l, (readsOf step w l).lo = (readT step w t).lo) ∧ ∃ t ∈ l, (readsOf step w l).hi = (readT step w t).hi := by
  cases l with
  | nil => exact absurd rfl hne
  | cons t l =>
    obtain ⟨⟨a1, a2⟩, ⟨b1, b2⟩, c, d⟩ := fold_ends step w l (readT step w t)
    show (∀ u ∈ t :: l, (l.foldl (wider step w) (readT step w t)).lo ≤ _ ∧ _) ∧ _
    refine ⟨fun u hu => ?_, ?_, ?_⟩
    · rcases List.mem_cons.1 hu with rfl | hu
      · exact ⟨a1, b1⟩
      · exact ⟨a2 u hu, b2 u hu⟩
    · rcases c with c | ⟨u, hu, c⟩
      · exact ⟨t, List.mem_cons_self .., c⟩
      · exact ⟨u, List.mem_cons_of_mem _ hu, c⟩
    · rcases d with d | ⟨u, hu, d⟩
      · exact ⟨t, List.mem_cons_self .., d⟩
      · exact ⟨u, List.mem_cons_of_mem _ hu, d⟩
/-- All ends show what the scale may show. -/
theorem reads_in {s : Scale} (hr : right s = true) {w : Int} {t : Tune} (ht : t ∈ tunes s) {o : Int} (ho : t.off.lo ≤ o ∧ o ≤ t.off.hi) : (readsOf s.step w (tunes s)).lo ≤ readAt s.step w t.gain o ∧ readAt s.step w t.gain o ≤ (readsOf s.step w (tunes s)).hi := by
  have hs : 1 ≤ s.step := by simp [right, inb] at hr; omega
  have h := (readsOf_ends (step := s.step) (w := w) (List.ne_nil_of_mem ht)).1 t ht
  have h1 := readAt_mono (w := w) (g := t.gain) hs ho.1
  have h2 := readAt_mono (w := w) (g := t.gain) hs ho.2
  simp only [readT] at h
  omega
theorem reads_true {s : Scale} (hr : right s = true) {w x y : Int} (h : trueB s x y = true) : (readsOf s.step w (tunes s)).lo ≤ readAt s.step w x y ∧ readAt s.step w x y ≤ (readsOf s.step w (tunes s)).hi := by
  rw [trueB_iff] at h
  exact reads_in hr (t := ⟨x, offs s x⟩) (mem_tunes.2 ⟨h.1, rfl, by dsimp only; omega⟩) h.2
theorem reads_lo {s : Scale} {w : Int} (hne : tunes s ≠ []) : endAt s.step w (readsOf s.step w (tunes s)).lo (tunes s) = true := by
  obtain ⟨t, ht, h⟩ := (readsOf_ends (step := s.step) (w := w) hne).2.1
  exact List.any_eq_true.2 ⟨t, ht, by simp only [readT] at h; simp [h]⟩
theorem reads_hi {s : Scale} {w : Int} (hne : tunes s ≠ []) : endAt s.step w (readsOf s.step w (tunes s)).hi (tunes s) = true := by
  obtain ⟨t, ht, h⟩ := (readsOf_ends (step := s.step) (w := w) hne).2.2
  exact List.any_eq_true.2 ⟨t, ht, by simp only [readT] at h; simp [h]⟩
/-- With a trial more. -/
def tried (s : Scale) (t : Trial) : Scale := { s with trials := s.trials ++ [t] }
theorem tried_in {s : Scale} {t : Trial} {a : Tune} (h : a ∈ tunes (tried s t)) : ∃ b ∈ tunes s, a.gain = b.gain ∧ b.off.lo ≤ a.off.lo ∧ a.off.hi ≤ b.off.hi := by
  obtain ⟨h1, h2, h3⟩ := mem_tunes.1 h
  have e : offs (tried s t) a.gain = offStep a.gain s.step (offs s a.gain) t := by simp [offs, tried]
  rw [e] at h2
  have h4 : (offs s a.gain).lo ≤ a.off.lo := by rw [h2]; simp only [offStep]; omega
  have h5 : a.off.hi ≤ (offs s a.gain).hi := by rw [h2]; simp only [offStep]; omega
  exact ⟨⟨a.gain, offs s a.gain⟩, mem_tunes.2 ⟨h1, rfl, by dsimp only; omega⟩, rfl, h4, h5⟩
theorem tried_true {s : Scale} {t : Trial} {x y : Int} (h : trueB (tried s t) x y = true) : trueB s x y = true := by
  simp only [trueB, tried, List.all_append, Bool.and_eq_true] at h ⊢
  exact ⟨h.1.1, h.2⟩
/-- The floor by 1,000 steps, as the statement reckons it. -/
theorem readAt_by (step w g o : Int) : readAt step w g o = (w * (1000 + g) + 1000 * o) / (1000 * step) * step := by
  unfold readAt
  rw [Int.ediv_ediv_of_nonneg (by omega)]
end Kr
