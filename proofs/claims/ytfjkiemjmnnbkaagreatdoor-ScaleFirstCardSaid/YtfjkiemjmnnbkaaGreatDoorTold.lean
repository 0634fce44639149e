/-
  The truth that is returned for a total that is told: a truth of all scales with weights that they show, and the first one. Plain laws.
-/
import Derived.Test.YtfjkiemjmnnbkaaGreatDoorWd
import Derived.Test.YtfjkiemjmnnbkaaGreatDoorTsA
namespace Kr
open Go.Proofs.YtfjkiemjmnnbkaaGreatDoor

theorem any_has {l : List Span} {x : Int} : (l.any fun s => inAll s.lo s.hi [x]) = true ↔ has l x := by
  rw [List.any_eq_true]
  constructor
  · rintro ⟨s, hs, h⟩; simp [inAll, inb] at h; exact ⟨s, hs, h.1, h.2⟩
  · rintro ⟨s, hs, h1, h2⟩; exact ⟨s, hs, by simp [inAll, inb]; omega⟩
theorem truth_none {b : List Scale} {g : Gear} (h : check b g = 0) {x : Int} (hn : ¬ has (totals b g) x) : truthR b g x = (([], []), 6) := by
  have h1 : ((totals b g).any fun s => inAll s.lo s.hi [x]) = false := by
    cases e : (totals b g).any fun s => inAll s.lo s.hi [x] with
    | false => rfl
    | true => exact absurd (any_has.1 e) hn
  unfold truthR
  rw [if_pos h]
  split
  · rw [truthOf_none h1]; rfl
  · rfl
theorem truth_some {b : List Scale} {g : Gear} (h : check b g = 0) {x : Int} (hx : has (totals b g) x) : ∃ ch ws, truthR b g x = ((ch, ws), 0) ∧ ch.length = (used b g.loads).length ∧ ws.length = g.loads.length ∧ TruthOf b g.loads (tuneOf ((used b g.loads).zip ch)) ws ∧ g.added + ws.sum = x ∧
    (∀ (i : Nat) (s : Scale) (q : Part), (used b g.loads)[i]? = some s → ch[i]? = some q → tuneOf ((used b g.loads).zip ch) s.id = (q.gain, q.off)) ∧
    (∃ r, greedy ⟨x - g.added, x - g.added⟩ ((used b g.loads).map fun s => parts s g.loads) = some (ch, r)) ∧ ws = layF (x - g.added) (g.loads.map (spanOf b (tuneOf ((used b g.loads).zip ch)))) := by
  obtain ⟨hb, hg⟩ := check_zero h
  have hp := bayOk_ids hb
  have hr := bayOk_right hb
  have hl := gearOk_at hg
  have hlu := used_at hl
  have hpu := used_ids hb g.loads
  have hsub : ∀ s ∈ used b g.loads, s ∈ b := fun s hs => (List.mem_filter.1 hs).1
  have hfu : ∀ s ∈ used b g.loads, b.find? (fun t => t.id == s.id) = some s := fun s hs => find_id hp (hsub s hs) rfl
  obtain ⟨ch, r, h1, h2, h3⟩ := greedy_any (any_has.2 hx)
  have hbare := bare_bounds (gearOk_bare hg)
  have h6 : g.loads.length ≤ 6 := by simp [gearOk] at hg; exact hg.1.2
  have hneed := total_in hpu h1 h2 h3 h6
  have hspec := greedy_spec (goodAll _ _) h1
  have hc := hspec.1
  have e := hspec.2
  have hlen : ch.length = (used b g.loads).length := by rw [chosen_len hc, List.length_map]
  have hzp := zip_ids hpu ch
  have hT : ∀ y ∈ (used b g.loads).zip ch, (y.2.gain, y.2.off) = tuneOf ((used b g.loads).zip ch) y.1.id := fun y hy => (tuneOf_zip hzp hy).symm
  have hs := chosen_sum hc
  have hful := chosen_full hc
  rw [gathL_by (b := b) hpu hlen hT hlu hfu] at hs hful
  rw [e] at h2 h3
  dsimp only at h2 h3
  have htrue : ∀ s ∈ used b g.loads, trueB s (tuneOf ((used b g.loads).zip ch) s.id).1 (tuneOf ((used b g.loads).zip ch) s.id).2 = true := by
    intro s hs
    obtain ⟨i, hi, rfl⟩ := List.mem_iff_getElem.1 hs
    have hz : ((used b g.loads)[i], ch[i]) ∈ (used b g.loads).zip ch := List.mem_of_getElem? (i := i) (by rw [List.getElem?_zip_eq_some]; exact ⟨List.getElem?_eq_getElem hi, List.getElem?_eq_getElem (by omega)⟩)
    have h3 := hT _ hz
    dsimp only at h3
    rw [← h3]
    exact (mem_parts.1 (chosen_zip hc _ hz).2).1
  have hpk := picks_layF hful (x - g.added) (by omega) (by omega)
  refine ⟨ch, layF (x - g.added) (g.loads.map (spanOf b (tuneOf ((used b g.loads).zip ch)))), ?_, hlen, by rw [hpk.1.len, List.length_map], ⟨htrue, ?_⟩, by rw [hpk.2]; omega, fun i s q hs hq => ?_, ⟨r, h1⟩, rfl⟩
  · unfold truthR
    rw [if_pos h, if_pos (by simp [inb]; omega)]
    unfold truthOf
    rw [h1]
    dsimp only
    rw [if_pos (by rw [e]; dsimp only; omega), gathL_by (b := b) hpu hlen hT hlu hfu]
    rfl
  · rw [truthOf_picks hp hl (fun s hs => (trueB_gain (hr s (hsub s hs)) (htrue s hs)).1)]
    exact hpk.1
  · exact (hT (s, q) (List.mem_of_getElem? (List.getElem?_zip_eq_some.2 ⟨hs, hq⟩))).symm

/-- A list of numbers comes before another one, or is the same. -/
def LexLe : List Int → List Int → Prop
  | [], [] => True
  | a :: l, b :: m => a < b ∨ (a = b ∧ LexLe l m)
  | _, _ => False
theorem lexLe_refl : ∀ l : List Int, LexLe l l
  | [] => trivial
  | _ :: l => .inr ⟨rfl, lexLe_refl l⟩
theorem lexLe_at : ∀ {l m : List Int}, LexLe l m → ∀ (i : Nat) (a c : Int), l[i]? = some a → m[i]? = some c → (∀ j < i, l[j]? = m[j]?) → a ≠ c → a < c
  | [], [], _, i, a, c, h, _, _, _ => by simp at h
  | [], _ :: _, h, _, _, _, _, _, _, _ => by cases h
  | _ :: _, [], h, _, _, _, _, _, _, _ => by cases h
  | x :: l, y :: m, h, i, a, c, ha, hc, hj, hne => by
    cases i with
    | zero =>
      simp at ha hc
      subst ha hc
      rcases h with h | ⟨h, _⟩
      · exact h
      · exact absurd h hne
    | succ i =>
      have h0 := hj 0 (by omega)
      simp at h0
      rcases h with h | ⟨_, h⟩
      · omega
      · exact lexLe_at h i a c (by simpa using ha) (by simpa using hc) (fun j hj' => by have := hj (j + 1) (by omega); simpa using this) hne
/-- The least weights, as they are laid, come first. -/
theorem layF_first : ∀ {l : List Span} {ws : List Int} {need : Int}, Picks ws l → ws.sum = need → LexLe (layF need l) ws
  | [], [], _, _, _ => trivial
  | [], _ :: _, _, h, _ => by cases h
  | _ :: _, [], _, h, _ => by cases h
  | s :: l, w :: ws, need, h, hs => by
    have hb := h.2.sum
    have h1 := h.1
    simp only [List.sum_cons] at hs
    unfold layF
    by_cases hc : max s.lo (need - sumHi l) = w
    · right
      refine ⟨hc, ?_⟩
      rw [hc]
      exact layF_first h.2 (by omega)
    · left
      omega
/-- Parts in their order. -/
def PartLt (p q : Part) : Prop := p.gain < q.gain ∨ (p.gain = q.gain ∧ p.off < q.off)
theorem partsN_inc (s : Scale) (ls : List Load) (gain lo : Int) : ∀ n, (partsN s ls gain lo n).Pairwise PartLt
  | 0 => List.Pairwise.nil
  | n + 1 => by
    rw [partsN, List.pairwise_append]
    refine ⟨partsN_inc s ls gain lo n, ?_, fun a ha b hb => ?_⟩
    · unfold partAt
      split
      · exact List.pairwise_singleton _ _
      · exact List.Pairwise.nil
    · have h1 := partsN_sum ha
      have h2 := partAt_sum hb
      right
      exact ⟨by omega, by omega⟩
theorem tunesN_incT (s : Scale) (g : Int) : ∀ n, (tunesN s g n).Pairwise fun a b => a.gain < b.gain
  | 0 => List.Pairwise.nil
  | n + 1 => by
    rw [tunesN, List.pairwise_append]
    refine ⟨tunesN_incT s g n, ?_, fun a ha b hb => ?_⟩
    · unfold tuneAt
      split
      · exact List.pairwise_singleton _ _
      · exact List.Pairwise.nil
    · have h1 := (mem_tunesN.1 ha).1
      unfold tuneAt at hb
      split at hb
      · rw [List.mem_singleton.1 hb]; dsimp only; omega
      · cases hb
theorem parts_inc (s : Scale) (ls : List Load) : (parts s ls).Pairwise PartLt := by
  unfold parts partsL
  have h := tunesN_incT s s.gain.lo (gainN s)
  unfold tunes
  revert h
  generalize tunesN s s.gain.lo (gainN s) = l
  intro h
  induction l with
  | nil => exact List.Pairwise.nil
  | cons t l ih =>
    have h1 := List.pairwise_cons.1 h
    rw [List.flatMap_cons, List.pairwise_append]
    refine ⟨partsN_inc _ _ _ _ _, ih h1.2, fun a ha b hb => ?_⟩
    obtain ⟨u, hu, hb⟩ := List.mem_flatMap.1 hb
    have h2 := partsN_sum ha
    have h3 := partsN_sum hb
    have h4 := h1.1 u hu
    left
    omega
def flatT (l : List Part) : List Int := l.flatMap fun q => [q.gain, q.off]
theorem greedy_first {ls : List Load} : ∀ {U : List Scale} {left : Span} {l l' : List Part} {r : Span}, greedy left (U.map fun s => parts s ls) = some (l, r) → left.lo ≤ left.hi → Chosen l' (U.map fun s => parts s ls) → left.lo - (l'.map fun q => q.sum.hi).sum ≤ 0 → 0 ≤ left.hi - (l'.map fun q => q.sum.lo).sum →
    ∀ (t t' : List Int), (l = l' → LexLe t t') → t.length = t'.length → LexLe (flatT l ++ t) (flatT l' ++ t')
  | [], left, l, l', r, h, _, hc, _, _, t, t', ht, _ => by
    cases h
    cases l' with
    | nil => exact ht rfl
    | cons q l' => cases hc
  | s :: U, left, l, l', r, h, hle, hc, h1, h2, t, t', ht, hlen => by
    cases l' with
    | nil => cases hc
    | cons q' l' =>
      simp only [List.map_cons] at h hc h1 h2
      simp only [greedy] at h
      split at h
      · rename_i q hq
        split at h
        · rename_i m r' h3
          cases h
          simp only [List.sum_cons] at h1 h2
          have hc1 : q' ∈ parts s ls := hc.1
          have hgood := parts_good s ls q' hc1
          have hfit : fitsB (U.map fun s => parts s ls) left q' = true := by
            unfold fitsB
            have hn := (restOf_ok (goodAll U ls)).1
            rw [touches_iff hn.1 _ _ (by omega)]
            have hle2 : (l'.map fun q => q.sum.lo).sum ≤ (l'.map fun q => q.sum.hi).sum := by
              have := chosen_sum hc.2
              have := sum_le (chosen_full hc.2)
              omega
            refine ⟨max (l'.map fun q => q.sum.lo).sum (left.lo - q'.sum.hi), (rest_chosen (goodAll U ls) _).2 ⟨l', hc.2, by omega, by omega⟩, by omega, by omega⟩
          have hle3 : LexLe (flatT [q] ++ (flatT m ++ t)) (flatT [q'] ++ (flatT l' ++ t')) := by
            by_cases e : q = q'
            · subst e
              have hgq := parts_good s ls q (List.mem_of_find?_eq_some hq)
              have := greedy_first (U := U) (l := m) (l' := l') h3 (by simp only [leave]; omega) hc.2 (by simp only [leave]; omega) (by simp only [leave]; omega) t t' (fun e => ht (by rw [e])) hlen
              exact .inr ⟨rfl, .inr ⟨rfl, this⟩⟩
            · have hlt : PartLt q q' := by
                obtain ⟨la, lb, hab, hno⟩ := List.find?_eq_some_iff_append.1 hq |>.2
                have hinc := parts_inc s ls
                rw [hab] at hinc hc1
                rcases List.mem_append.1 hc1 with hm | hm
                · have := hno q' hm
                  rw [hfit] at this
                  simp at this
                · rcases List.mem_cons.1 hm with hm | hm
                  · exact absurd hm.symm e
                  · exact (List.pairwise_cons.1 (List.pairwise_append.1 hinc).2.1).1 q' hm
              rcases hlt with h | ⟨h, h'⟩
              · exact .inl h
              · exact .inr ⟨h, .inl h'⟩
          simpa [flatT] using hle3
        · cases h
      · cases h
end Kr
