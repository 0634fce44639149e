/-
  Several texts in one: see the heads of its parts.
-/
import Derived.Test.YtfjkiemjmnnbkaaGreatDoorPl
import Derived.Test.YtfjkiemjmnnbkaaGreatDoorTq

/-
  What totals mean: a number is a total if and only if some truths of the scales and some weights, which they show, have it. Plain laws.
-/
namespace Kr

/-- The weights of a span are those with which the scale shows the number. -/
theorem wt_iff {step gain off n w : Int} (hg : -10 ≤ gain ∧ gain ≤ 10) : ((wt step gain off n).lo ≤ w ∧ w ≤ (wt step gain off n).hi) ↔ (0 ≤ w ∧ w ≤ 1000000) ∧ showsB gain off w n step = true := by
  unfold wt showsB
  have hd : 0 < 1000 + gain := by omega
  simp only [Int.max_le, Int.le_min, Bool.and_eq_true, decide_eq_true_eq]
  have h1 : -(-1000 * (n - off) / (1000 + gain)) ≤ w ↔ 1000 * n ≤ w * (1000 + gain) + 1000 * off := by
    rw [show (-(-1000 * (n - off) / (1000 + gain)) ≤ w) ↔ (-w ≤ -1000 * (n - off) / (1000 + gain)) by omega, Int.le_ediv_iff_mul_le hd, Int.neg_mul]
    omega
  have h2 : w ≤ (1000 * (n + step - off) - 1) / (1000 + gain) ↔ w * (1000 + gain) + 1000 * off < 1000 * (n + step) := by
    rw [Int.le_ediv_iff_mul_le hd]
    omega
  rw [h1, h2]
  constructor
  · rintro ⟨⟨a, b⟩, c, d⟩; exact ⟨⟨a, c⟩, b, d⟩
  · rintro ⟨⟨a, c⟩, b, d⟩; exact ⟨⟨a, b⟩, c, d⟩

theorem mem_tunesN {s : Scale} {g : Int} {n : Nat} {t : Tune} : t ∈ tunesN s g n ↔ (g ≤ t.gain ∧ t.gain < g + n) ∧ t.off = offs s t.gain ∧ t.off.lo ≤ t.off.hi := by
  induction n with
  | zero => simp only [tunesN, List.not_mem_nil, false_iff]; omega
  | succ n ih =>
    rw [tunesN, List.mem_append, ih]
    unfold tuneAt
    constructor
    · rintro (⟨h1, h2, h3⟩ | h)
      · exact ⟨by omega, h2, h3⟩
      · split at h
        · rw [List.mem_singleton.1 h]; dsimp only; exact ⟨by omega, rfl, by assumption⟩
        · cases h
    · rintro ⟨h1, h2, h3⟩
      by_cases hc : t.gain < g + n
      · exact .inl ⟨⟨h1.1, hc⟩, h2, h3⟩
      · right
        have e : g + n = t.gain := by omega
        rw [e, ← h2, if_pos h3]
        cases t; simp
theorem mem_tunes {s : Scale} {t : Tune} : t ∈ tunes s ↔ (s.gain.lo ≤ t.gain ∧ t.gain ≤ s.gain.hi) ∧ t.off = offs s t.gain ∧ t.off.lo ≤ t.off.hi := by
  unfold tunes
  rw [mem_tunesN]
  unfold gainN
  constructor
  · rintro ⟨h1, h2⟩; exact ⟨by omega, h2⟩
  · rintro ⟨h1, h2⟩; exact ⟨by omega, h2⟩
theorem mem_partsN {s : Scale} {ls : List Load} {gain lo : Int} {n : Nat} {p : Part} : p ∈ partsN s ls gain lo n ↔ p.gain = gain ∧ (lo ≤ p.off ∧ p.off < lo + n) ∧ partSum s p.gain p.off ls = some p.sum := by
  constructor
  · intro h
    have := partsN_sum h
    exact ⟨this.2.1, this.2.2, this.1⟩
  · rintro ⟨rfl, h1, h2⟩
    induction n with
    | zero => omega
    | succ n ih =>
      rw [partsN, List.mem_append]
      by_cases hc : p.off < lo + n
      · exact .inl (ih ⟨h1.1, hc⟩)
      · right
        have e : lo + n = p.off := by omega
        unfold partAt
        rw [e, h2, List.mem_singleton]
theorem mem_parts {s : Scale} {ls : List Load} {p : Part} : p ∈ parts s ls ↔ trueB s p.gain p.off = true ∧ partSum s p.gain p.off ls = some p.sum := by
  unfold parts partsL
  rw [List.mem_flatMap, trueB_iff]
  unfold partsT
  constructor
  · rintro ⟨t, ht, hp⟩
    have h1 := mem_partsN.1 hp
    have h2 := mem_tunes.1 ht
    have h3 : (offN t : Int) = t.off.hi - t.off.lo + 1 := by unfold offN; omega
    rw [h1.1, ← h2.2.1]
    exact ⟨⟨h2.1, h1.2.1.1, by omega⟩, h1.1 ▸ h1.2.2⟩
  · rintro ⟨⟨h1, h2, h3⟩, h4⟩
    refine ⟨⟨p.gain, offs s p.gain⟩, mem_tunes.2 ⟨h1, rfl, by dsimp only; omega⟩, mem_partsN.2 ⟨rfl, ⟨h2, ?_⟩, h4⟩⟩
    have h5 : (offN ⟨p.gain, offs s p.gain⟩ : Int) = (offs s p.gain).hi - (offs s p.gain).lo + 1 := by unfold offN; dsimp only; omega
    rw [h5]; dsimp only; omega
theorem own_sum {s : Scale} {gain off : Int} (ls : List Load) (o : Span) (h : Full (ownW s gain off ls)) : ls.foldl (addLoad s gain off) (some o) = some ⟨o.lo + sumLo (ownW s gain off ls), o.hi + sumHi (ownW s gain off ls)⟩ := by
  induction ls generalizing o with
  | nil => simp [ownW, sumLo, sumHi]
  | cons l ls ih =>
    rw [ownW_cons] at h
    rw [List.foldl_cons, ownW_cons, sumLo_append, sumHi_append]
    by_cases hl : l.scale = s.id
    · rw [if_pos hl] at h ⊢
      have hc := h _ (List.mem_append_left _ (List.mem_singleton.2 rfl))
      rw [show addLoad s gain off (some o) l = some ⟨o.lo + (wt s.step gain off l.shown).lo, o.hi + (wt s.step gain off l.shown).hi⟩ from by unfold addLoad; rw [if_pos hl]; simp only; rw [if_pos hc], ih _ (fun t ht => h t (List.mem_append_right _ ht))]
      simp [sumLo, sumHi]; omega
    · rw [if_neg hl] at h ⊢
      rw [show addLoad s gain off (some o) l = some o from by unfold addLoad; rw [if_neg hl], ih _ h]
      simp [sumLo, sumHi]
theorem partSum_iff {s : Scale} {gain off : Int} {ls : List Load} {x : Span} : partSum s gain off ls = some x ↔ Full (ownW s gain off ls) ∧ x = ⟨sumLo (ownW s gain off ls), sumHi (ownW s gain off ls)⟩ := by
  constructor
  · intro h; exact (partSum_own h).symm
  · rintro ⟨h, rfl⟩
    unfold partSum
    rw [own_sum ls _ h]; simp

/-- Numbers, one of each span. -/
def Picks : List Int → List Span → Prop
  | [], [] => True
  | w :: ws, s :: l => (s.lo ≤ w ∧ w ≤ s.hi) ∧ Picks ws l
  | _, _ => False
theorem Picks.sum {ws : List Int} {l : List Span} (h : Picks ws l) : sumLo l ≤ ws.sum ∧ ws.sum ≤ sumHi l := by
  induction l generalizing ws with
  | nil => cases ws with
    | nil => simp [sumLo, sumHi]
    | cons w ws => cases h
  | cons s l ih => cases ws with
    | nil => cases h
    | cons w ws =>
      have := ih h.2
      have := h.1
      simp only [sumLo, sumHi, List.map_cons, List.sum_cons] at *
      omega
theorem Picks.len {ws : List Int} {l : List Span} (h : Picks ws l) : ws.length = l.length := by
  induction l generalizing ws with
  | nil => cases ws with
    | nil => rfl
    | cons w ws => cases h
  | cons s l ih => cases ws with
    | nil => cases h
    | cons w ws => simp [ih h.2]
theorem Picks.full {ws : List Int} {l : List Span} (h : Picks ws l) : Full l := by
  induction l generalizing ws with
  | nil => intro s hs; cases hs
  | cons s l ih => cases ws with
    | nil => cases h
    | cons w ws =>
      intro t ht
      rcases List.mem_cons.1 ht with rfl | ht
      · have := h.1; omega
      · exact ih h.2 t ht
theorem picks_layF {l : List Span} (hf : Full l) (need : Int) (h1 : sumLo l ≤ need) (h2 : need ≤ sumHi l) : Picks (layF need l) l ∧ (layF need l).sum = need := by
  induction l generalizing need with
  | nil => simp [layF, Picks, sumLo, sumHi] at *; omega
  | cons s l ih =>
    have hf2 : Full l := fun t ht => hf t (List.mem_cons_of_mem _ ht)
    have hs := hf s (List.mem_cons_self ..)
    have hl := sum_le hf2
    simp only [sumHi, sumLo, List.map_cons, List.sum_cons] at h1 h2 hl ih
    have := ih hf2 (need - max s.lo (need - sumHi l)) (by simp only [sumHi]; omega) (by simp only [sumHi]; omega)
    simp only [layF, Picks, List.sum_cons]
    exact ⟨⟨by simp only [sumHi]; omega, this.1⟩, by rw [this.2]; omega⟩

theorem chosen_le {k : Nat} : ∀ {ps : List (List Part)} {ch : List Part}, GoodAll k ps → Chosen ch ps → (ch.map fun q => q.sum.lo).sum ≤ (ch.map fun q => q.sum.hi).sum
  | [], [], _, _ => by simp
  | [], _ :: _, _, h => by cases h
  | _ :: _, [], _, h => by cases h
  | p :: ps, q :: ch, hg, h => by
    have h1 := hg p (List.mem_cons_self ..) q h.1
    have h2 := chosen_le (fun x hx => hg x (List.mem_cons_of_mem _ hx)) h.2
    simp only [List.map_cons, List.sum_cons]
    omega
/-- What several scales weigh together: some parts', one of each. -/
theorem rest_chosen {k : Nat} {ps : List (List Part)} (hg : GoodAll k ps) (z : Int) : has (restOf ps) z ↔ ∃ ch, Chosen ch ps ∧ (ch.map fun q => q.sum.lo).sum ≤ z ∧ z ≤ (ch.map fun q => q.sum.hi).sum := by
  induction ps generalizing z with
  | nil =>
    constructor
    · rintro ⟨s, hs, h1, h2⟩
      simp [restOf] at hs; subst hs
      exact ⟨[], trivial, by simpa using h1, by simpa using h2⟩
    · rintro ⟨ch, hc, h1, h2⟩
      cases ch with
      | nil => exact ⟨⟨0, 0⟩, by simp [restOf], by simpa using h1, by simpa using h2⟩
      | cons q ch => cases hc
  | cons p ps ih =>
    have hg2 : GoodAll k ps := fun q hq => hg q (List.mem_cons_of_mem _ hq)
    rw [rest_has hg]
    constructor
    · rintro ⟨q, hq, y, hy, h1, h2⟩
      obtain ⟨ch, hc, h3, h4⟩ := (ih hg2 y).1 hy
      exact ⟨q :: ch, ⟨hq, hc⟩, by simp only [List.map_cons, List.sum_cons]; omega, by simp only [List.map_cons, List.sum_cons]; omega⟩
    · rintro ⟨ch, hc, h1, h2⟩
      cases ch with
      | nil => cases hc
      | cons q ch =>
        have hq := hg p (List.mem_cons_self ..) q hc.1
        have hle := chosen_le hg2 hc.2
        simp only [List.map_cons, List.sum_cons] at h1 h2
        refine ⟨q, hc.1, max (ch.map fun q => q.sum.lo).sum (z - q.sum.hi), (ih hg2 _).2 ⟨ch, hc.2, by omega, by omega⟩, by omega, by omega⟩

/-- A truth of the scales that loads name, and weights that they show: what a total is made of. -/
def TruthOf (b : List Scale) (ls : List Load) (T : Int → Int × Int) (ws : List Int) : Prop :=
  (∀ s ∈ used b ls, trueB s (T s.id).1 (T s.id).2 = true) ∧ ws.length = ls.length ∧ ∀ s ∈ b, ∀ (i : Nat) (l : Load) (w : Int), ls[i]? = some l → ws[i]? = some w → l.scale = s.id → (0 ≤ w ∧ w ≤ 1000000) ∧ showsB (T s.id).1 (T s.id).2 w l.shown s.step = true
/-- The spans of the loads by a truth. -/
def spanOf (b : List Scale) (T : Int → Int × Int) (l : Load) : Span := match b.find? (fun s => s.id == l.scale) with | some s => wt s.step (T s.id).1 (T s.id).2 l.shown | none => ⟨0, -1⟩
theorem ids_eq {b : List Scale} (hp : b.Pairwise IdLt) {s t : Scale} (hs : s ∈ b) (ht : t ∈ b) (h : s.id = t.id) : s = t := by
  obtain ⟨i, hi, rfl⟩ := List.mem_iff_getElem.1 hs
  obtain ⟨j, hj, rfl⟩ := List.mem_iff_getElem.1 ht
  rw [List.pairwise_iff_getElem] at hp
  rcases Nat.lt_trichotomy i j with hij | rfl | hij
  · have := hp i j hi hj hij; unfold IdLt at this; omega
  · rfl
  · have := hp j i hj hi hij; unfold IdLt at this; omega
theorem find_id {b : List Scale} (hp : b.Pairwise IdLt) {s : Scale} (hs : s ∈ b) {n : Int} (h : n = s.id) : b.find? (fun s => s.id == n) = some s := by
  have h1 : (b.find? (fun s => s.id == n)).isSome := List.find?_isSome.2 ⟨s, hs, by simp [h]⟩
  obtain ⟨t, ht⟩ := Option.isSome_iff_exists.1 h1
  rw [ht]
  have h2 := List.mem_of_find?_eq_some ht
  have h3 := List.find?_some ht
  simp at h3
  rw [ids_eq hp h2 hs (by omega)]
theorem truthOf_picks {b : List Scale} {ls : List Load} {T : Int → Int × Int} {ws : List Int} (hp : b.Pairwise IdLt) (hl : ∀ l ∈ ls, ∃ s ∈ b, s.id = l.scale) (hT : ∀ s ∈ used b ls, -10 ≤ (T s.id).1 ∧ (T s.id).1 ≤ 10) :
    (ws.length = ls.length ∧ ∀ s ∈ b, ∀ (i : Nat) (l : Load) (w : Int), ls[i]? = some l → ws[i]? = some w → l.scale = s.id → (0 ≤ w ∧ w ≤ 1000000) ∧ showsB (T s.id).1 (T s.id).2 w l.shown s.step = true) ↔ Picks ws (ls.map (spanOf b T)) := by
  have key : ∀ l ∈ ls, ∀ s ∈ b, l.scale = s.id → ∀ w, ((spanOf b T l).lo ≤ w ∧ w ≤ (spanOf b T l).hi) ↔ (0 ≤ w ∧ w ≤ 1000000) ∧ showsB (T s.id).1 (T s.id).2 w l.shown s.step = true := by
    intro l hl s hs he w
    unfold spanOf
    rw [find_id hp hs he]
    exact wt_iff (hT s (List.mem_filter.2 ⟨hs, List.any_eq_true.2 ⟨l, hl, by simp [he]⟩⟩))
  clear hT
  induction ls generalizing ws with
  | nil => cases ws with
    | nil => simp [Picks]
    | cons w ws => simp [Picks]
  | cons l ls ih => cases ws with
    | nil => simp [Picks]
    | cons w ws =>
      simp only [List.map_cons, Picks]
      refine Iff.trans ?_ (and_congr Iff.rfl (ih (ws := ws) (fun l h => hl l (List.mem_cons_of_mem _ h)) (fun l h => key l (List.mem_cons_of_mem _ h))))
      obtain ⟨s, hs, he⟩ := hl l (List.mem_cons_self ..)
      have hk := key l (List.mem_cons_self ..) s hs he.symm w
      constructor
      · rintro ⟨h1, h2⟩
        refine ⟨hk.2 (h2 s hs 0 l w rfl rfl he.symm), by simpa using h1, fun s hs i l w h3 h4 h5 => h2 s hs (i + 1) l w (by simpa using h3) (by simpa using h4) h5⟩
      · rintro ⟨h1, h2, h3⟩
        refine ⟨by simpa using h2, fun s' hs' i l' w' h4 h5 h6 => ?_⟩
        cases i with
        | zero =>
          simp at h4 h5
          subst h4 h5
          rw [ids_eq hp hs' hs (by omega)]
          exact hk.1 h1
        | succ i => exact h3 s' hs' i l' w' (by simpa using h4) (by simpa using h5) h6
theorem gath_by {b : List Scale} {T : Int → Int × Int} {U : List Scale} {ch : List Part} (hp : U.Pairwise IdLt) {l : Load} (hlen : ch.length = U.length) (hT : ∀ x ∈ U.zip ch, (x.2.gain, x.2.off) = T x.1.id) (hl : ∃ s ∈ U, s.id = l.scale) (hf : ∀ s ∈ U, b.find? (fun t => t.id == s.id) = some s) : gath (U.zip ch) l = [spanOf b T l] := by
  induction U generalizing ch with
  | nil => obtain ⟨s, hs, _⟩ := hl; cases hs
  | cons s U ih => cases ch with
    | nil => simp at hlen
    | cons q ch =>
      rw [List.zip_cons_cons] at hT ⊢
      rw [gath_cons]
      have hpw := List.pairwise_cons.1 hp
      by_cases he : s.id = l.scale
      · rw [if_pos he]
        have hno : gath (U.zip ch) l = [] := by
          unfold gath
          rw [List.flatMap_eq_nil_iff]
          intro x hx
          have h1 := hpw.1 x.1 (List.of_mem_zip hx).1
          unfold IdLt at h1
          rw [if_neg (by omega)]
        have h2 := hT (s, q) (List.mem_cons_self ..)
        dsimp only at h2
        rw [hno, List.append_nil]
        unfold spanOf
        rw [← he, hf s (List.mem_cons_self ..)]
        dsimp only
        rw [← h2]
      · rw [if_neg he, List.nil_append]
        refine ih hpw.2 (by simpa using hlen) (fun x hx => hT x (List.mem_cons_of_mem _ hx)) ?_ (fun t ht => hf t (List.mem_cons_of_mem _ ht))
        obtain ⟨t, ht, h3⟩ := hl
        rcases List.mem_cons.1 ht with rfl | ht
        · exact absurd h3 he
        · exact ⟨t, ht, h3⟩
theorem gathL_by {b : List Scale} {ls : List Load} {T : Int → Int × Int} {U : List Scale} {ch : List Part} (hp : U.Pairwise IdLt) (hlen : ch.length = U.length) (hT : ∀ x ∈ U.zip ch, (x.2.gain, x.2.off) = T x.1.id) (hl : ∀ l ∈ ls, ∃ s ∈ U, s.id = l.scale) (hf : ∀ s ∈ U, b.find? (fun t => t.id == s.id) = some s) : gathL (U.zip ch) ls = ls.map (spanOf b T) := by
  unfold gathL
  induction ls with
  | nil => rfl
  | cons l ls ih =>
    rw [List.flatMap_cons, List.map_cons, ih (fun l h => hl l (List.mem_cons_of_mem _ h)), gath_by hp hlen hT (hl l (List.mem_cons_self ..)) hf]
    rfl
theorem bayOk_ids {b : List Scale} (h : bayOk b = true) : b.Pairwise IdLt := by
  unfold bayOk at h
  simp at h
  exact (bayFrom_ids h.1).2
theorem bayOk_right {b : List Scale} (h : bayOk b = true) : ∀ s ∈ b, right s = true := by
  unfold bayOk at h
  simp at h
  exact bayFrom_right h.1
theorem gearOk_at {b : List Scale} {g : Gear} (h : gearOk b g = true) : ∀ l ∈ g.loads, ∃ s ∈ b, s.id = l.scale := by
  intro l hl
  simp [gearOk] at h
  have h1 := h.1.1 l hl
  unfold loadOk at h1
  split at h1
  · rename_i s hs
    exact ⟨s, List.mem_of_find?_eq_some hs, by simpa using List.find?_some hs⟩
  · cases h1
theorem used_at {b : List Scale} {ls : List Load} (hl : ∀ l ∈ ls, ∃ s ∈ b, s.id = l.scale) : ∀ l ∈ ls, ∃ s ∈ used b ls, s.id = l.scale := by
  intro l h
  obtain ⟨s, hs, he⟩ := hl l h
  exact ⟨s, List.mem_filter.2 ⟨hs, List.any_eq_true.2 ⟨l, h, by simp [he]⟩⟩, he⟩
theorem trueB_gain {s : Scale} (hr : right s = true) {x y : Int} (h : trueB s x y = true) : (-10 ≤ x ∧ x ≤ 10) ∧ (-100 ≤ y ∧ y ≤ 100) := by
  simp [trueB, inb] at h
  simp [right, inb, ordered] at hr
  omega
theorem chosen_of {ls : List Load} {U : List Scale} (P : Scale → Part) (h : ∀ s ∈ U, P s ∈ parts s ls) : Chosen (U.map P) (U.map fun s => parts s ls) := by
  induction U with
  | nil => trivial
  | cons s U ih => exact ⟨h s (List.mem_cons_self ..), ih (fun s hs => h s (List.mem_cons_of_mem _ hs))⟩
/-- The truth that some chosen parts are. -/
def tuneOf (Z : List (Scale × Part)) (n : Int) : Int × Int := match Z.find? (fun x => x.1.id == n) with | some x => (x.2.gain, x.2.off) | none => (0, 0)
theorem tuneOf_zip {Z : List (Scale × Part)} (hp : Z.Pairwise fun a b => a.1.id < b.1.id) {x : Scale × Part} (hx : x ∈ Z) : tuneOf Z x.1.id = (x.2.gain, x.2.off) := by
  unfold tuneOf
  have h1 : (Z.find? (fun y => y.1.id == x.1.id)).isSome := List.find?_isSome.2 ⟨x, hx, by simp⟩
  obtain ⟨y, hy⟩ := Option.isSome_iff_exists.1 h1
  rw [hy]
  have h2 := List.mem_of_find?_eq_some hy
  have h3 := List.find?_some hy
  simp at h3
  obtain ⟨i, hi, rfl⟩ := List.mem_iff_getElem.1 hx
  obtain ⟨j, hj, rfl⟩ := List.mem_iff_getElem.1 h2
  rw [List.pairwise_iff_getElem] at hp
  rcases Nat.lt_trichotomy i j with hij | rfl | hij
  · have := hp i j hi hj hij; omega
  · rfl
  · have := hp j i hj hi hij; omega
/-- A number is a total if and only if it is that of some truth. -/
theorem totals_truth {b : List Scale} {g : Gear} (h : check b g = 0) (x : Int) : has (totals b g) x ↔ ∃ T ws, TruthOf b g.loads T ws ∧ g.added + ws.sum = x := by
  obtain ⟨hb, hg⟩ := check_zero h
  have hp := bayOk_ids hb
  have hr := bayOk_right hb
  have hl := gearOk_at hg
  have hlu := used_at hl
  have hpu := used_ids hb g.loads
  have hsub : ∀ s ∈ used b g.loads, s ∈ b := fun s hs => (List.mem_filter.1 hs).1
  have hfu : ∀ s ∈ used b g.loads, b.find? (fun t => t.id == s.id) = some s := fun s hs => find_id hp (hsub s hs) rfl
  rw [totals_has, rest_chosen (goodAll _ _)]
  constructor
  · rintro ⟨ch, hc, h1, h2⟩
    have hlen : ch.length = (used b g.loads).length := by rw [chosen_len hc, List.length_map]
    have hzp := zip_ids hpu ch
    have hT : ∀ x ∈ (used b g.loads).zip ch, (x.2.gain, x.2.off) = tuneOf ((used b g.loads).zip ch) x.1.id := fun x hx => (tuneOf_zip hzp hx).symm
    have hs := chosen_sum hc
    have hful := chosen_full hc
    rw [gathL_by (b := b) hpu hlen hT hlu hfu] at hs hful
    have htrue : ∀ s ∈ used b g.loads, trueB s (tuneOf ((used b g.loads).zip ch) s.id).1 (tuneOf ((used b g.loads).zip ch) s.id).2 = true := by
      intro s hs
      obtain ⟨i, hi, rfl⟩ := List.mem_iff_getElem.1 hs
      have hz : ((used b g.loads)[i], ch[i]) ∈ (used b g.loads).zip ch := List.mem_of_getElem? (i := i) (by rw [List.getElem?_zip_eq_some]; exact ⟨List.getElem?_eq_getElem hi, List.getElem?_eq_getElem (by omega)⟩)
      have h3 := hT _ hz
      dsimp only at h3
      rw [← h3]
      exact (mem_parts.1 (chosen_zip hc _ hz).2).1
    refine ⟨_, layF (x - g.added) (g.loads.map (spanOf b (tuneOf ((used b g.loads).zip ch)))), ⟨htrue, ?_⟩, ?_⟩
    · rw [truthOf_picks hp hl (fun s hs => (trueB_gain (hr s (hsub s hs)) (htrue s hs)).1)]
      exact (picks_layF hful _ (by omega) (by omega)).1
    · rw [(picks_layF hful _ (by omega) (by omega)).2]; omega
  · rintro ⟨T, ws, ⟨htrue, hrest⟩, rfl⟩
    rw [truthOf_picks hp hl (fun s hs => (trueB_gain (hr s (hsub s hs)) (htrue s hs)).1)] at hrest
    have hful := hrest.full
    have hsum := hrest.sum
    have hown : ∀ s ∈ used b g.loads, Full (ownW s (T s.id).1 (T s.id).2 g.loads) := by
      intro s hs t ht
      obtain ⟨l, hl2, rfl⟩ := List.mem_map.1 ht
      obtain ⟨hl2, he⟩ := List.mem_filter.1 hl2
      refine hful _ (List.mem_map.2 ⟨l, hl2, ?_⟩)
      unfold spanOf
      rw [find_id hp (hsub s hs) (by simpa using he)]
    have hc := chosen_of (ls := g.loads) (U := used b g.loads) (fun s => ⟨(T s.id).1, (T s.id).2, ⟨sumLo (ownW s (T s.id).1 (T s.id).2 g.loads), sumHi (ownW s (T s.id).1 (T s.id).2 g.loads)⟩⟩) (fun s hs => mem_parts.2 ⟨htrue s hs, partSum_iff.2 ⟨hown s hs, rfl⟩⟩)
    refine ⟨_, hc, ?_⟩
    have hs := chosen_sum hc
    rw [← hs.1, ← hs.2, gathL_by (b := b) (T := T) hpu (by rw [List.length_map]) ?_ hlu hfu]
    · omega
    · intro x hx
      rw [List.zip_map_right] at hx
      obtain ⟨y, hy, rfl⟩ := List.mem_map.1 hx
      have h9 := List.of_mem_zip hy
      have : y.1 = y.2 := by
        obtain ⟨i, hi, rfl⟩ := List.mem_iff_getElem.1 hy
        simp
      simp [this]
end Kr

/-
  The truths of a scale and what it may show: what the statement on trials asks. Plain laws.
-/
namespace Kr

theorem readAt_mono {step w g o o' : Int} (hs : 1 ≤ step) (h : o ≤ o') : readAt step w g o ≤ readAt step w g o' := by
  unfold readAt
  exact Int.mul_le_mul_of_nonneg_right (Int.ediv_le_ediv (by omega) (Int.ediv_le_ediv (by omega) (by omega))) (by omega)
theorem readAt_step (step w g o : Int) : (readAt step w g o).tmod step = 0 := by unfold readAt; exact Int.mul_tmod_left _ _
theorem tune_in {s : Scale} {t : Tune} (h : t ∈ tunes s) : (s.gain.lo ≤ t.gain ∧ t.gain ≤ s.gain.hi) ∧ s.off.lo ≤ t.off.lo ∧ t.off.lo ≤ t.off.hi ∧ t.off.hi ≤ s.off.hi := by
  obtain ⟨h1, h2, h3⟩ := mem_tunes.1 h
  have := offs_in s t.gain
  rw [← h2] at this
  exact ⟨h1, this.1, h3, this.2⟩
theorem tune_true {s : Scale} {t : Tune} (h : t ∈ tunes s) {o : Int} (ho : t.off.lo ≤ o ∧ o ≤ t.off.hi) : trueB s t.gain o = true := by
  obtain ⟨h1, h2, h3⟩ := mem_tunes.1 h
  rw [trueB_iff, ← h2]
  exact ⟨h1, ho⟩
theorem tunesN_inc (s : Scale) (g : Int) : ∀ n, (tunesN s g n).Pairwise fun a b => a.gain < b.gain
  | 0 => List.Pairwise.nil
  | n + 1 => by
    rw [tunesN, List.pairwise_append]
    refine ⟨tunesN_inc s g n, ?_, fun a ha b hb => ?_⟩
    · unfold tuneAt
      split
      · exact List.pairwise_singleton _ _
      · exact List.Pairwise.nil
    · have h1 := (mem_tunesN.1 ha).1
      unfold tuneAt at hb
      split at hb
      · rw [List.mem_singleton.1 hb]; dsimp only; omega
      · cases hb
theorem tunes_inc (s : Scale) {i : Nat} {a b : Tune} (ha : (tunes s)[i]? = some a) (hb : (tunes s)[i + 1]? = some b) : a.gain < b.gain := by
  have h := List.pairwise_iff_getElem.1 (tunesN_inc s s.gain.lo (gainN s))
  obtain ⟨h1, rfl⟩ := List.getElem?_eq_some_iff.1 ha
  obtain ⟨h2, rfl⟩ := List.getElem?_eq_some_iff.1 hb
  exact h i (i + 1) h1 h2 (by omega)
/-- A gain and an offset are told. -/
def toldAt (x y : Int) (l : List Tune) : Bool := l.any fun t => decide (t.gain = x) && (decide (t.off.lo ≤ y) && decide (y ≤ t.off.hi))
theorem told_true (s : Scale) (x y : Int) : toldAt x y (tunes s) = trueB s x y := by
  rw [Bool.eq_iff_iff]
  unfold toldAt
  rw [List.any_eq_true, trueB_iff]
  constructor
  · rintro ⟨t, ht, h⟩
    simp only [Bool.and_eq_true, decide_eq_true_eq] at h
    obtain ⟨h1, h2, h3⟩ := mem_tunes.1 ht
    obtain ⟨rfl, h4⟩ := h
    rw [← h2]
    exact ⟨h1, h4⟩
  · rintro ⟨h1, h2, h3⟩
    exact ⟨⟨x, offs s x⟩, mem_tunes.2 ⟨h1, rfl, by dsimp only; omega⟩, by simp; exact ⟨h2, h3⟩⟩
theorem told_snoc (x y : Int) (l : List Tune) (t : Tune) : toldAt x y (l ++ [t]) = (toldAt x y l || (decide (t.gain = x) && (decide (t.off.lo ≤ y) && decide (y ≤ t.off.hi)))) := by
  simp [toldAt]
/-- Some of the ends shows this number. -/
def endAt (step w n : Int) (l : List Tune) : Bool := l.any fun t => decide (readAt step w t.gain t.off.lo = n) || decide (readAt step w t.gain t.off.hi = n)
theorem endAt_snoc (step w n : Int) (l : List Tune) (t : Tune) : endAt step w n (l ++ [t]) = (endAt step w n l || (decide (readAt step w t.gain t.off.lo = n) || decide (readAt step w t.gain t.off.hi = n))) := by
  simp [endAt]
theorem fold_ends (step w : Int) : ∀ (l : List Tune) (o : Span), ((l.foldl (wider step w) o).lo ≤ o.lo ∧ ∀ t ∈ l, (l.foldl (wider step w) o).lo ≤ (readT step w t).lo) ∧ (o.hi ≤ (l.foldl (wider step w) o).hi ∧ ∀ t ∈ l, (readT step w t).hi ≤ (l.foldl (wider step w) o).hi) ∧
    ((l.foldl (wider step w) o).lo = o.lo ∨ ∃ t ∈ l, (l.foldl (wider step w) o).lo = (readT step w t).lo) ∧ ((l.foldl (wider step w) o).hi = o.hi ∨ ∃ t ∈ l, (l.foldl (wider step w) o).hi = (readT step w t).hi)
  | [], o => by simp
  | t :: l, o => by
    rw [List.foldl_cons]
    obtain ⟨⟨a1, a2⟩, ⟨b1, b2⟩, c, d⟩ := fold_ends step w l (wider step w o t)
    generalize l.foldl (wider step w) (wider step w o t) = r at *
    have e1 : (wider step w o t).lo = min o.lo (readT step w t).lo := rfl
    have e2 : (wider step w o t).hi = max o.hi (readT step w t).hi := rfl
    rw [e1] at a1 c
    rw [e2] at b1 d
    refine ⟨⟨(by clear c d; omega), fun u hu => ?_⟩, ⟨(by clear c d; omega), fun u hu => ?_⟩, ?_, ?_⟩
    · rcases List.mem_cons.1 hu with rfl | hu
      · clear c d; omega
      · exact a2 u hu
    · rcases List.mem_cons.1 hu with rfl | hu
      · clear c d; omega
      · exact b2 u hu
    · clear d
      rcases c with c | ⟨u, hu, c⟩
      · by_cases h : o.lo ≤ (readT step w t).lo
        · exact .inl (by omega)
        · exact .inr ⟨t, List.mem_cons_self .., by omega⟩
      · exact .inr ⟨u, List.mem_cons_of_mem _ hu, c⟩
    · clear c
      rcases d with d | ⟨u, hu, d⟩
      · by_cases h : (readT step w t).hi ≤ o.hi
        · exact .inl (by omega)
        · exact .inr ⟨t, List.mem_cons_self .., by omega⟩
      · exact .inr ⟨u, List.mem_cons_of_mem _ hu, d⟩
theorem readsOf_ends {step w : Int} {l : List Tune} (hne : l ≠ []) : (∀ t ∈ l, (readsOf step w l).lo ≤ (readT step w t).lo ∧ (readT step w t).hi ≤ (readsOf step w l).hi) ∧ (∃ t ∈ l, (readsOf step w l).lo = (readT step w t).lo) ∧ ∃ t ∈ l, (readsOf step w l).hi = (readT step w t).hi := by
  cases l with
  | nil => exact absurd rfl hne
  | cons t l =>
    obtain ⟨⟨a1, a2⟩, ⟨b1, b2⟩, c, d⟩ := fold_ends step w l (readT step w t)
    show (∀ u ∈ t :: l, (l.foldl (wider step w) (readT step w t)).lo ≤ _ ∧ _) ∧ _
    refine ⟨fun u hu => ?_, ?_, ?_⟩
    · rcases List.mem_cons.1 hu with rfl | hu
      · exact ⟨a1, b1⟩
      · exact ⟨a2 u hu, b2 u hu⟩
    · rcases c with c | ⟨u, hu, c⟩
      · exact ⟨t, List.mem_cons_self .., c⟩
      · exact ⟨u, List.mem_cons_of_mem _ hu, c⟩
    · rcases d with d | ⟨u, hu, d⟩
      · exact ⟨t, List.mem_cons_self .., d⟩
      · exact ⟨u, List.mem_cons_of_mem _ hu, d⟩
/-- All ends show what the scale may show. -/
theorem reads_in {s : Scale} (hr : right s = true) {w : Int} {t : Tune} (ht : t ∈ tunes s) {o : Int} (ho : t.off.lo ≤ o ∧ o ≤ t.off.hi) : (readsOf s.step w (tunes s)).lo ≤ readAt s.step w t.gain o ∧ readAt s.step w t.gain o ≤ (readsOf s.step w (tunes s)).hi := by
  have hs : 1 ≤ s.step := by simp [right, inb] at hr; omega
  have h := (readsOf_ends (step := s.step) (w := w) (List.ne_nil_of_mem ht)).1 t ht
  have h1 := readAt_mono (w := w) (g := t.gain) hs ho.1
  have h2 := readAt_mono (w := w) (g := t.gain) hs ho.2
  simp only [readT] at h
  omega
theorem reads_true {s : Scale} (hr : right s = true) {w x y : Int} (h : trueB s x y = true) : (readsOf s.step w (tunes s)).lo ≤ readAt s.step w x y ∧ readAt s.step w x y ≤ (readsOf s.step w (tunes s)).hi := by
  rw [trueB_iff] at h
  exact reads_in hr (t := ⟨x, offs s x⟩) (mem_tunes.2 ⟨h.1, rfl, by dsimp only; omega⟩) h.2
theorem reads_lo {s : Scale} {w : Int} (hne : tunes s ≠ []) : endAt s.step w (readsOf s.step w (tunes s)).lo (tunes s) = true := by
  obtain ⟨t, ht, h⟩ := (readsOf_ends (step := s.step) (w := w) hne).2.1
  exact List.any_eq_true.2 ⟨t, ht, by simp only [readT] at h; simp [h]⟩
theorem reads_hi {s : Scale} {w : Int} (hne : tunes s ≠ []) : endAt s.step w (readsOf s.step w (tunes s)).hi (tunes s) = true := by
  obtain ⟨t, ht, h⟩ := (readsOf_ends (step := s.step) (w := w) hne).2.2
  exact List.any_eq_true.2 ⟨t, ht, by simp only [readT] at h; simp [h]⟩
/-- With a trial more. -/
def tried (s : Scale) (t : Trial) : Scale := { s with trials := s.trials ++ [t] }
theorem tried_in {s : Scale} {t : Trial} {a : Tune} (h : a ∈ tunes (tried s t)) : ∃ b ∈ tunes s, a.gain = b.gain ∧ b.off.lo ≤ a.off.lo ∧ a.off.hi ≤ b.off.hi := by
  obtain ⟨h1, h2, h3⟩ := mem_tunes.1 h
  have e : offs (tried s t) a.gain = offStep a.gain s.step (offs s a.gain) t := by simp [offs, tried]
  rw [e] at h2
  have h4 : (offs s a.gain).lo ≤ a.off.lo := by rw [h2]; simp only [offStep]; omega
  have h5 : a.off.hi ≤ (offs s a.gain).hi := by rw [h2]; simp only [offStep]; omega
  exact ⟨⟨a.gain, offs s a.gain⟩, mem_tunes.2 ⟨h1, rfl, by dsimp only; omega⟩, rfl, h4, h5⟩
theorem tried_true {s : Scale} {t : Trial} {x y : Int} (h : trueB (tried s t) x y = true) : trueB s x y = true := by
  simp only [trueB, tried, List.all_append, Bool.and_eq_true] at h ⊢
  exact ⟨h.1.1, h.2⟩
/-- The floor by 1,000 steps, as the statement reckons it. -/
theorem readAt_by (step w g o : Int) : readAt step w g o = (w * (1000 + g) + 1000 * o) / (1000 * step) * step := by
  unfold readAt
  rw [Int.ediv_ediv_of_nonneg (by omega)]
end Kr

/-
  With a trial more no total is added; with wider gains and offsets none is lost, and nothing is known that was open. Plain laws.
-/
namespace Kr

/-- Every scale of the second bay stands for one of the first, whose truths are among its own. -/
def Under2 (b b' : List Scale) : Prop := ∀ s ∈ b, ∃ s' ∈ b', s'.id = s.id ∧ s'.step = s.step ∧ ∀ x y, trueB s' x y = true → trueB s x y = true
theorem truth_under {b b' : List Scale} (h : Under2 b b') {ls : List Load} {T : Int → Int × Int} {ws : List Int} (ht : TruthOf b' ls T ws) : TruthOf b ls T ws := by
  obtain ⟨h1, h2, h3⟩ := ht
  refine ⟨fun s hs => ?_, h2, fun s hs i l w hl hw he => ?_⟩
  · obtain ⟨hs1, hs2⟩ := List.mem_filter.1 hs
    obtain ⟨s', hs', e1, e2, e3⟩ := h s hs1
    have := h1 s' (List.mem_filter.2 ⟨hs', by unfold usedB at hs2 ⊢; rw [e1]; exact hs2⟩)
    rw [e1] at this
    exact e3 _ _ this
  · obtain ⟨s', hs', e1, e2, e3⟩ := h s hs
    have := h3 s' hs' i l w hl hw (by rw [e1]; exact he)
    rw [e1, e2] at this
    exact this
theorem under_has {b b' : List Scale} {g g' : Gear} (h : Under2 b b') (hc : check b g = 0) (hc' : check b' g' = 0) (hl : g'.loads = g.loads) (ha : g'.added = g.added) {x : Int} (hx : has (totals b' g') x) : has (totals b g) x := by
  rw [totals_truth hc'] at hx
  rw [totals_truth hc]
  obtain ⟨T, ws, h1, h2⟩ := hx
  rw [hl] at h1
  rw [ha] at h2
  exact ⟨T, ws, truth_under h h1, h2⟩
theorem under_among {b b' : List Scale} {g g' : Gear} (h : Under2 b b') (hc : check b g = 0) (hc' : check b' g' = 0) (hl : g'.loads = g.loads) (ha : g'.added = g.added) : ∀ s ∈ totals b' g', ∃ t ∈ totals b g, t.lo ≤ s.lo ∧ s.hi ≤ t.hi :=
  among_of_has (totals_neat _ _).1 (totals_neat _ _) fun _ hx => under_has h hc hc' hl ha hx

/-- One scale of a bay is another one. -/
def atId (n : Int) (F : Scale → Scale) (s : Scale) : Scale := if s.id = n then F s else s
theorem set_map {b : List Scale} (hp : b.Pairwise IdLt) {k : Nat} {s : Scale} (hk : b[k]? = some s) (F : Scale → Scale) : b.set k (F s) = b.map (atId s.id F) := by
  obtain ⟨hlt, rfl⟩ := List.getElem?_eq_some_iff.1 hk
  refine List.ext_getElem (by simp) fun i h1 h2 => ?_
  rw [List.getElem_set, List.getElem_map]
  have hi : i < b.length := by simpa using h1
  split
  · rename_i e
    subst e
    simp [atId]
  · rename_i e
    have : b[i].id ≠ b[k].id := fun h => by
      rw [List.pairwise_iff_getElem] at hp
      rcases Nat.lt_trichotomy i k with hik | hik | hik
      · have := hp i k hi hlt hik; unfold IdLt at this; omega
      · exact e hik.symm
      · have := hp k i hlt hi hik; unfold IdLt at this; omega
    simp [atId, this]
theorem bayFrom_map {F : Scale → Scale} : ∀ (l : List Scale) (a : Int), (∀ s ∈ l, (F s).id = s.id ∧ right (F s) = right s) → bayFrom a (l.map F) = bayFrom a l
  | [], _, _ => rfl
  | s :: l, a, h => by
    have h1 := h s (List.mem_cons_self ..)
    simp only [List.map_cons, bayFrom]
    rw [h1.1, h1.2, bayFrom_map l _ (fun t ht => h t (List.mem_cons_of_mem _ ht))]
theorem loadOk_map {F : Scale → Scale} {b : List Scale} (h : ∀ s ∈ b, (F s).id = s.id ∧ (F s).step = s.step) (l : Load) : loadOk (b.map F) l = loadOk b l := by
  unfold loadOk
  rw [List.find?_map]
  have e : b.find? ((fun s => s.id == l.scale) ∘ F) = b.find? (fun s => s.id == l.scale) := by
    induction b with
    | nil => rfl
    | cons s b ih =>
      have h1 := h s (List.mem_cons_self ..)
      simp only [List.find?_cons, Function.comp, h1.1]
      rw [← ih (fun t ht => h t (List.mem_cons_of_mem _ ht))]
  rw [e]
  cases hq : b.find? (fun s => s.id == l.scale) with
  | none => rfl
  | some s => simp [(h s (List.mem_of_find?_eq_some hq)).2]
/-- Wider ends. -/
def widen (c1 c2 c3 c4 : Int) (s : Scale) : Scale := { s with gain := ⟨max (-10) (s.gain.lo - c1), min 10 (s.gain.hi + c2)⟩, off := ⟨max (-100) (s.off.lo - c3), min 100 (s.off.hi + c4)⟩ }
theorem widen_right {c1 c2 c3 c4 : Int} (h1 : 0 ≤ c1) (h2 : 0 ≤ c2) (h3 : 0 ≤ c3) (h4 : 0 ≤ c4) {s : Scale} (h : right s = true) : right (widen c1 c2 c3 c4 s) = true := by
  unfold right at h ⊢
  rw [Bool.and_eq_true, Bool.and_eq_true, Bool.and_eq_true, Bool.and_eq_true] at h ⊢
  obtain ⟨⟨⟨⟨a, c⟩, d⟩, e⟩, f⟩ := h
  refine ⟨⟨⟨⟨a, ?_⟩, ?_⟩, e⟩, f⟩
  · simp [ordered] at c
    simp only [ordered, widen, Bool.and_eq_true]
    refine ⟨⟨decide_eq_true ?_, decide_eq_true ?_⟩, decide_eq_true ?_⟩ <;> omega
  · simp [ordered] at d
    simp only [ordered, widen, Bool.and_eq_true]
    refine ⟨⟨decide_eq_true ?_, decide_eq_true ?_⟩, decide_eq_true ?_⟩ <;> omega
theorem widen_true {c1 c2 c3 c4 : Int} (h1 : 0 ≤ c1) (h2 : 0 ≤ c2) (h3 : 0 ≤ c3) (h4 : 0 ≤ c4) {s : Scale} (hr : right s = true) {x y : Int} (h : trueB s x y = true) : trueB (widen c1 c2 c3 c4 s) x y = true := by
  simp only [right, ordered, Bool.and_eq_true, decide_eq_true_eq] at hr
  unfold trueB at h ⊢
  rw [Bool.and_eq_true] at h ⊢
  refine ⟨h.1, ?_⟩
  have h9 := h.2
  simp [inb] at h9
  simp only [inb, widen, Bool.and_eq_true]
  refine ⟨⟨decide_eq_true ?_, decide_eq_true ?_⟩, decide_eq_true ?_, decide_eq_true ?_⟩ <;> omega
theorem wide_check {b : List Scale} {g g' : Gear} (hc : check b g = 0) (n : Int) {c1 c2 c3 c4 : Int} (h1 : 0 ≤ c1) (h2 : 0 ≤ c2) (h3 : 0 ≤ c3) (h4 : 0 ≤ c4) (hl : g'.loads = g.loads) (hb : bare g' = true) : check (b.map (atId n (widen c1 c2 c3 c4))) g' = 0 := by
  obtain ⟨hb1, hg⟩ := check_zero hc
  have hr := bayOk_right hb1
  have hF : ∀ s ∈ b, (atId n (widen c1 c2 c3 c4) s).id = s.id ∧ (atId n (widen c1 c2 c3 c4) s).step = s.step ∧ right (atId n (widen c1 c2 c3 c4) s) = right s := by
    intro s hs
    unfold atId
    split
    · exact ⟨rfl, rfl, by rw [widen_right h1 h2 h3 h4 (hr s hs), hr s hs]⟩
    · exact ⟨rfl, rfl, rfl⟩
  have e1 : bayOk (b.map (atId n (widen c1 c2 c3 c4))) = true := by
    unfold bayOk at hb1 ⊢
    rw [bayFrom_map b _ (fun s hs => ⟨(hF s hs).1, (hF s hs).2.2⟩), List.length_map]
    exact hb1
  have e2 : gearOk (b.map (atId n (widen c1 c2 c3 c4))) g' = true := by
    unfold gearOk at hg ⊢
    rw [hl, hb, Bool.and_true]
    rw [Bool.and_eq_true] at hg
    rw [show loadOk (b.map (atId n (widen c1 c2 c3 c4))) = loadOk b from funext fun l => loadOk_map (fun s hs => ⟨(hF s hs).1, (hF s hs).2.1⟩) l]
    exact hg.1
  unfold check
  rw [if_pos e1, if_pos e2]
theorem wide_under {b : List Scale} (hr : ∀ s ∈ b, right s = true) (n : Int) {c1 c2 c3 c4 : Int} (h1 : 0 ≤ c1) (h2 : 0 ≤ c2) (h3 : 0 ≤ c3) (h4 : 0 ≤ c4) : Under2 (b.map (atId n (widen c1 c2 c3 c4))) b := by
  intro s hs
  obtain ⟨t, ht, rfl⟩ := List.mem_map.1 hs
  refine ⟨t, ht, ?_⟩
  unfold atId
  split
  · exact ⟨rfl, rfl, fun x y h => widen_true h1 h2 h3 h4 (hr t ht) h⟩
  · exact ⟨rfl, rfl, fun x y h => h⟩
theorem tried_under {b : List Scale} (n : Int) (t : Trial) : Under2 b (b.map (atId n fun s => tried s t)) := by
  intro s hs
  refine ⟨_, List.mem_map.2 ⟨s, hs, rfl⟩, ?_⟩
  unfold atId
  split
  · exact ⟨rfl, rfl, fun x y h => tried_true h⟩
  · exact ⟨rfl, rfl, fun x y h => h⟩

/-- Whatever was known is known still, or open. -/
def Opens (q p : Int) : Prop := q = p ∨ q = 1
theorem known_opens {l m : List Span} {o : Span} (hl : Full l) (hm : Full m) (hne : l ≠ []) (ho : o.lo ≤ o.hi) (h : ∀ x, has l x → has m x) : Opens (knownR m o) (knownR l o) := by
  have a1 : (m.all fun s => decide (o.lo ≤ s.lo) && decide (s.hi ≤ o.hi)) = true → (l.all fun s => decide (o.lo ≤ s.lo) && decide (s.hi ≤ o.hi)) = true := by
    intro ha
    rw [List.all_eq_true] at ha ⊢
    intro s hs
    have hf := hl s hs
    obtain ⟨t, ht, h1, h2⟩ := h s.lo ⟨s, hs, Int.le_refl _, hf⟩
    obtain ⟨u, hu, h3, h4⟩ := h s.hi ⟨s, hs, hf, Int.le_refl _⟩
    have k1 := ha t ht
    have k2 := ha u hu
    simp only [Bool.and_eq_true, decide_eq_true_eq] at k1 k2 ⊢
    omega
  have a2 : touches l o.lo o.hi = true → touches m o.lo o.hi = true := by
    intro ht
    rw [touches_iff hl _ _ ho] at ht
    rw [touches_iff hm _ _ ho]
    obtain ⟨y, hy, h1⟩ := ht
    exact ⟨y, h y hy, h1⟩
  have a3 : (l.all fun s => decide (o.lo ≤ s.lo) && decide (s.hi ≤ o.hi)) = true → touches l o.lo o.hi = true := by
    intro ha
    rw [List.all_eq_true] at ha
    cases l with
    | nil => exact absurd rfl hne
    | cons s l =>
      have k := ha s (List.mem_cons_self ..)
      have hf := hl s (List.mem_cons_self ..)
      simp only [Bool.and_eq_true, decide_eq_true_eq] at k
      simp only [touches, List.any_cons, Bool.or_eq_true, Bool.and_eq_true, decide_eq_true_eq]
      left
      omega
  unfold Opens knownR
  cases hA : (m.all fun s => decide (o.lo ≤ s.lo) && decide (s.hi ≤ o.hi)) with
  | true => left; rw [if_pos rfl, if_pos (a1 hA)]
  | false =>
    rw [if_neg (by simp)]
    cases hB : touches m o.lo o.hi with
    | true => right; rfl
    | false =>
      left
      have hB2 : touches l o.lo o.hi ≠ true := fun e => by rw [a2 e] at hB; cases hB
      rw [if_neg (by simp), if_neg (fun e => hB2 (a3 e)), if_neg hB2]
theorem fold_opens {α : Type} (f f' : α → Int) : ∀ (l : List α) (a b : Int), (∀ x ∈ l, Opens (f' x) (f x) ∧ 0 ≤ f x ∧ f x ≤ 2) → Opens b a → (0 ≤ a ∧ a ≤ 2) → Opens (l.foldl (fun k x => min k (f' x)) b) (l.foldl (fun k x => min k (f x)) a)
  | [], _, _, _, h, _ => h
  | x :: l, a, b, h, hb, ha => by
    have h1 := h x (List.mem_cons_self ..)
    rw [List.foldl_cons, List.foldl_cons]
    refine fold_opens f f' l _ _ (fun y hy => h y (List.mem_cons_of_mem _ hy)) ?_ (by omega)
    unfold Opens at *
    omega
theorem warm_opens {g g' : Gear} (hr : g'.runners = g.runners) (hb : g'.base = g.base) (hj : 0 ≤ g.jitter ∧ g.jitter ≤ g'.jitter) {c : Int} (hc : -9000 ≤ c) : Opens (warmOf g' c) (warmOf g c) := by
  unfold warmOf
  rw [hr, List.foldl_map, List.foldl_map]
  refine fold_opens (fun r => knownR [warmAt g r] ⟨-9000, c⟩) (fun r => knownR [warmAt g' r] ⟨-9000, c⟩) g.runners 2 2 (fun r _ => ⟨?_, knownR_range _ _⟩) (.inl rfl) (by omega)
  refine known_opens (fun s hs => ?_) (fun s hs => ?_) (by simp) hc (fun x hx => ?_)
  · rw [List.mem_singleton.1 hs]; simp only [warmAt]; omega
  · rw [List.mem_singleton.1 hs]; simp only [warmAt]; omega
  · rw [has_one] at hx ⊢
    simp only [warmAt, hb] at hx ⊢
    omega
theorem hardOf_opens {sp sp' : Int} (h : sp ≤ sp') : ∀ (l : List Int) (o o' : Span), (o'.lo ≤ o.lo ∧ o.hi ≤ o'.hi) → ((l.foldl (hardStep sp') o').lo ≤ (l.foldl (hardStep sp) o).lo ∧ (l.foldl (hardStep sp) o).hi ≤ (l.foldl (hardStep sp') o').hi)
  | [], _, _, h => h
  | x :: l, o, o', h2 => by
    rw [List.foldl_cons, List.foldl_cons]
    exact hardOf_opens h l _ _ (by simp only [hardStep]; omega)
/-- What is judged stays, or is open. -/
theorem judge_opens {b b' : List Scale} {g g' : Gear} {n : Norm} (hu : Under2 b' b) (hc : check b g = 0) (hc' : check b' g' = 0) (hl : g'.loads = g.loads) (ha : g'.added = g.added) (hr : g'.runners = g.runners) (hb : g'.base = g.base)
    (hj : g.jitter ≤ g'.jitter) (hs : g'.strokes = g.strokes) (hsp : g.spread ≤ g'.spread) (hst : g'.stamp = g.stamp) (hn : normB n = true) (h : (judgeR b g n).2 = 0) :
    (judgeR b' g' n).2 = 0 ∧ Opens (judgeR b' g' n).1.2 (judgeR b g n).1.2 ∧ (judgeR b g n).1.1.length = 5 ∧ (judgeR b' g' n).1.1.length = 5 ∧ ∀ (i : Nat) (a c : Int), (judgeR b g n).1.1[i]? = some a → (judgeR b' g' n).1.1[i]? = some c → Opens c a := by
  have hbare := gearOk_bare (check_zero hc).2
  have hbare' := gearOk_bare (check_zero hc').2
  have bb := bare_bounds hbare
  have hne : totals b g ≠ [] := by
    intro e
    unfold judgeR at h
    rw [if_neg (by simp [hc]), if_neg (by simp [hn]), if_pos e] at h
    simp at h
  have hhas : ∀ x, has (totals b g) x → has (totals b' g') x := fun x hx => under_has hu hc' hc hl.symm ha.symm hx
  have hne' : totals b' g' ≠ [] := by
    intro e
    cases ht : totals b g with
    | nil => exact hne ht
    | cons s l =>
      have hf := (totals_neat b g).1 s (by rw [ht]; exact List.mem_cons_self ..)
      have := hhas s.lo ⟨s, by rw [ht]; exact List.mem_cons_self .., Int.le_refl _, hf⟩
      rw [e] at this
      exact has_nil _ this
  have hh : (hard g).2 = 0 := by
    cases Decidable.em ((hard g).2 = 0) with
    | inl e => exact e
    | inr e =>
      unfold judgeR at h
      rw [if_neg (by simp [hc]), if_neg (by simp [hn]), if_neg hne, if_pos e] at h
      exact h
  have ho := hardOf_opens hsp g.strokes ⟨0, 2000⟩ ⟨0, 2000⟩ (by simp)
  have e1 : hard g = (hardOf g, 0) ∧ (hardOf g).lo ≤ (hardOf g).hi := by
    unfold hard at hh ⊢
    rw [if_pos hbare] at hh ⊢
    by_cases hlt : (hardOf g).hi < (hardOf g).lo
    · rw [if_pos hlt] at hh; simp at hh
    · rw [if_neg hlt]; exact ⟨rfl, by omega⟩
  have ho2 : (hardOf g').lo ≤ (hardOf g).lo ∧ (hardOf g).hi ≤ (hardOf g').hi := by
    unfold hardOf
    rw [hs]
    exact ho
  have e2 : hard g' = (hardOf g', 0) := by
    unfold hard
    rw [if_pos hbare', if_neg (by have := e1.2; omega)]
  have hnn : n.total.lo ≤ n.total.hi ∧ n.hard.lo ≤ n.hard.hi ∧ -1000 ≤ n.warm := by simp [normB, ordered, inb] at hn; omega
  have p1 := known_opens (totals_neat b g).1 (totals_neat b' g').1 hne hnn.1 hhas
  have p3 := warm_opens (c := n.warm) hr hb ⟨bb.2.2.1.1, hj⟩ (by omega)
  have p4 : Opens (knownR [hardOf g'] n.hard) (knownR [hardOf g] n.hard) := by
    refine known_opens (fun s hs => ?_) (fun s hs => ?_) (by simp) hnn.2.1 (fun x hx => ?_)
    · rw [List.mem_singleton.1 hs]; exact e1.2
    · rw [List.mem_singleton.1 hs]; have := e1.2; omega
    · rw [has_one] at hx ⊢; omega
  have j1 : judgeR b g n = ((partsJ b g n, minOf (partsJ b g n)), 0) := by
    unfold judgeR
    rw [if_neg (by simp [hc]), if_neg (by simp [hn]), if_neg hne, if_neg (by simp [hh])]
  have j2 : judgeR b' g' n = ((partsJ b' g' n, minOf (partsJ b' g' n)), 0) := by
    unfold judgeR
    rw [if_neg (by simp [hc']), if_neg (by simp [hn]), if_neg hne', if_neg (by simp [e2])]
  rw [j1, j2]
  have q1 := knownR_range (totals b g) n.total
  have q2 := sureR_range (decide (g.added ≤ n.added))
  have q3 := warmOf_range g n.warm
  have q4 := knownR_range [hardOf g] n.hard
  have q5 := sureR_range (g.stamp || !n.stamp)
  unfold partsJ
  rw [ha, hst, e1.1, e2]
  dsimp only
  generalize knownR (totals b g) n.total = a1 at *
  generalize knownR (totals b' g') n.total = b1 at *
  generalize sureR (decide (g.added ≤ n.added)) = a2 at *
  generalize warmOf g n.warm = a3 at *
  generalize warmOf g' n.warm = b3 at *
  generalize knownR [hardOf g] n.hard = a4 at *
  generalize knownR [hardOf g'] n.hard = b4 at *
  generalize sureR (g.stamp || !n.stamp) = a5 at *
  refine ⟨rfl, ?_, rfl, rfl, fun i a c h1 h2 => ?_⟩
  · simp only [minOf, List.foldl_cons, List.foldl_nil]
    unfold Opens at *
    omega
  · match i with
    | 0 => simp at h1 h2; subst h1 h2; exact p1
    | 1 => simp at h1 h2; subst h1 h2; exact .inl rfl
    | 2 => simp at h1 h2; subst h1 h2; exact p3
    | 3 => simp at h1 h2; subst h1 h2; exact p4
    | 4 => simp at h1 h2; subst h1 h2; exact .inl rfl
    | i + 5 => simp at h1
theorem judge_err {b : List Scale} {g : Gear} {n : Norm} (hc : check b g = 0) (hn : normB n = true) (h : (judgeR b g n).2 ≠ 0) : (judgeR b g n).2 = 6 ∨ (judgeR b g n).2 = 8 := by
  have hbare := gearOk_bare (check_zero hc).2
  unfold judgeR at h ⊢
  rw [if_neg (by simp [hc]), if_neg (by simp [hn])] at h ⊢
  split
  · exact .inl rfl
  · rename_i h1
    rw [if_neg h1] at h
    by_cases hh : (hard g).2 = 0
    · rw [if_neg (by simp [hh])] at h; simp at h
    · rw [if_pos hh]
      right
      unfold hard at hh ⊢
      rw [if_pos hbare] at hh ⊢
      split
      · rfl
      · rename_i h2; rw [if_neg h2] at hh; simp at hh
end Kr

/-
  Drawn truths: scales that showed their trials by one, and loads that they show by it: their total is told. Plain laws.
-/
namespace Kr

/-- A scale whose trials showed what a gain and an offset make of their weights. -/
def drawS (t : Int × Int) (s : Scale) : Scale := { s with trials := s.trials.map fun r => ⟨r.weight, readAt s.step r.weight t.1 t.2⟩ }
def TuneOk (s : Scale) (t : Int × Int) : Prop := (s.gain.lo ≤ t.1 ∧ t.1 ≤ s.gain.hi) ∧ s.off.lo ≤ t.2 ∧ t.2 ≤ s.off.hi
theorem readAt_shows {step : Int} (hs : 1 ≤ step) (w g o : Int) : showsB g o w (readAt step w g o) step = true := by
  unfold showsB readAt
  generalize w * (1000 + g) + 1000 * o = y
  have h1 := Int.ediv_mul_le (y / 1000) (show step ≠ 0 by omega)
  have h2 := Int.lt_ediv_add_one_mul_self (y / 1000) (show 0 < step by omega)
  rw [Int.add_mul] at h2
  generalize y / 1000 / step * step = q at *
  simp only [Bool.and_eq_true, decide_eq_true_eq]
  omega
theorem right_parts {s : Scale} (h : right s = true) : (1 ≤ s.step ∧ s.step ≤ 500) ∧ (-10 ≤ s.gain.lo ∧ s.gain.lo ≤ s.gain.hi ∧ s.gain.hi ≤ 10) ∧ (-100 ≤ s.off.lo ∧ s.off.lo ≤ s.off.hi ∧ s.off.hi ≤ 100) := by
  simp only [right, inb, ordered, Bool.and_eq_true, decide_eq_true_eq] at h
  omega
theorem readAt_shown {s : Scale} (h : right s = true) {t : Int × Int} (ht : TuneOk s t) {w : Int} (hw : 0 ≤ w ∧ w ≤ 1000000) : shownB (readAt s.step w t.1 t.2) s.step = true := by
  obtain ⟨h1, h2, h3⟩ := right_parts h
  have hb := readAt_bound h1 hw (g := t.1) (o := t.2) (by unfold TuneOk at ht; omega) (by unfold TuneOk at ht; omega)
  unfold shownB inb
  rw [readAt_step]
  simp
  omega
theorem drawS_right {s : Scale} (h : right s = true) {t : Int × Int} (ht : TuneOk s t) : right (drawS t s) = true := by
  have hall : (s.trials.map fun r => (⟨r.weight, readAt s.step r.weight t.1 t.2⟩ : Trial)).all (trialOk s.step) = true := by
    rw [List.all_eq_true]
    intro x hx
    obtain ⟨r, hr, rfl⟩ := List.mem_map.1 hx
    have h2 : trialOk s.step r = true := by
      simp only [right, Bool.and_eq_true] at h
      exact List.all_eq_true.1 h.2 r hr
    simp only [trialOk, Bool.and_eq_true] at h2 ⊢
    refine ⟨h2.1, readAt_shown h ht ?_⟩
    simpa [inb] using h2.1
  simp only [right, drawS, List.length_map, Bool.and_eq_true] at h ⊢
  exact ⟨h.1, hall⟩
theorem drawS_true {s : Scale} (h : right s = true) {t : Int × Int} (ht : TuneOk s t) : trueB (drawS t s) t.1 t.2 = true := by
  have hs := (right_parts h).1.1
  simp only [trueB, drawS, Bool.and_eq_true, List.all_eq_true]
  refine ⟨fun x hx => ?_, by unfold TuneOk at ht; simp [inb]; omega⟩
  obtain ⟨r, _, rfl⟩ := List.mem_map.1 hx
  exact readAt_shows hs _ _ _

abbrev Drawn := List (Scale × (Int × Int))
def drawB (D : Drawn) : List Scale := D.map fun x => drawS x.2 x.1
def tuneBy (D : Drawn) (n : Int) : Int × Int := match D.find? (fun x => x.1.id == n) with | some x => x.2 | none => (0, 0)
/-- Loads: what scales of the bay show for weights. -/
def loadBy (D : Drawn) (p : Nat × Int) : Load := match D[p.1]? with | some x => ⟨x.1.id, readAt x.1.step p.2 x.2.1 x.2.2⟩ | none => ⟨0, 0⟩
theorem drawB_bay {D : Drawn} (h : bayOk (D.map Prod.fst) = true) (ht : ∀ x ∈ D, TuneOk x.1 x.2) : bayOk (drawB D) = true := by
  have key : ∀ (D : Drawn) (a : Int), bayFrom a (D.map Prod.fst) = true → (∀ x ∈ D, TuneOk x.1 x.2) → bayFrom a (drawB D) = true := by
    intro D
    induction D with
    | nil => intro a _ _; rfl
    | cons x D ih =>
      intro a h ht
      simp only [List.map_cons, bayFrom, drawB, Bool.and_eq_true] at h ⊢
      exact ⟨⟨h.1.1, drawS_right h.1.2 (ht x (List.mem_cons_self ..))⟩, ih _ h.2 (fun y hy => ht y (List.mem_cons_of_mem _ hy))⟩
  unfold bayOk at h ⊢
  rw [Bool.and_eq_true] at h ⊢
  exact ⟨key D _ h.1 ht, by simpa [drawB] using h.2⟩
theorem drawn_ids {D : Drawn} (h : bayOk (D.map Prod.fst) = true) {x y : Scale × (Int × Int)} (hx : x ∈ D) (hy : y ∈ D) (he : x.1.id = y.1.id) : x = y := by
  have hp := bayOk_ids h
  rw [List.pairwise_map] at hp
  obtain ⟨i, hi, rfl⟩ := List.mem_iff_getElem.1 hx
  obtain ⟨j, hj, rfl⟩ := List.mem_iff_getElem.1 hy
  rw [List.pairwise_iff_getElem] at hp
  rcases Nat.lt_trichotomy i j with hij | rfl | hij
  · have := hp i j hi hj hij; unfold IdLt at this; omega
  · rfl
  · have := hp j i hj hi hij; unfold IdLt at this; omega
theorem tuneBy_at {D : Drawn} (h : bayOk (D.map Prod.fst) = true) {x : Scale × (Int × Int)} (hx : x ∈ D) {n : Int} (hn : n = x.1.id) : tuneBy D n = x.2 := by
  unfold tuneBy
  have h1 : (D.find? (fun y => y.1.id == n)).isSome := List.find?_isSome.2 ⟨x, hx, by simp [hn]⟩
  obtain ⟨y, hy⟩ := Option.isSome_iff_exists.1 h1
  rw [hy]
  have h2 := List.mem_of_find?_eq_some hy
  have h3 := List.find?_some hy
  simp at h3
  rw [drawn_ids h h2 hx (by omega)]
theorem draw_check {D : Drawn} (h : bayOk (D.map Prod.fst) = true) (ht : ∀ x ∈ D, TuneOk x.1 x.2) {g : Gear} {ps : List (Nat × Int)} (hl : g.loads = ps.map (loadBy D)) (hp : ∀ p ∈ ps, p.1 < D.length ∧ 0 ≤ p.2 ∧ p.2 ≤ 1000000) (h6 : ps.length ≤ 6) (hb : bare g = true) : check (drawB D) g = 0 := by
  have hbay := drawB_bay h ht
  have hr := bayOk_right h
  have hg : gearOk (drawB D) g = true := by
    unfold gearOk
    rw [hb, hl, List.length_map, Bool.and_true, Bool.and_eq_true, List.all_eq_true]
    refine ⟨fun l hl => ?_, by simpa using h6⟩
    obtain ⟨p, hp1, rfl⟩ := List.mem_map.1 hl
    obtain ⟨hp2, hp3⟩ := hp p hp1
    have hx := List.getElem_mem hp2
    unfold loadBy
    rw [List.getElem?_eq_getElem hp2]
    unfold loadOk
    dsimp only
    rw [find_id (bayOk_ids hbay) (s := drawS D[p.1].2 D[p.1].1) (List.mem_map.2 ⟨_, hx, rfl⟩) (n := D[p.1].1.id) rfl]
    exact readAt_shown (hr _ (List.mem_map.2 ⟨_, hx, rfl⟩)) (ht _ hx) hp3
  unfold check
  rw [if_pos hbay, if_pos hg]
theorem draw_truth {D : Drawn} (h : bayOk (D.map Prod.fst) = true) (ht : ∀ x ∈ D, TuneOk x.1 x.2) {ps : List (Nat × Int)} (hp : ∀ p ∈ ps, p.1 < D.length ∧ 0 ≤ p.2 ∧ p.2 ≤ 1000000) : TruthOf (drawB D) (ps.map (loadBy D)) (tuneBy D) (ps.map Prod.snd) := by
  have hr := bayOk_right h
  refine ⟨fun s hs => ?_, by simp, fun s hs i l w hl hw he => ?_⟩
  · obtain ⟨x, hx, rfl⟩ := List.mem_map.1 (List.mem_filter.1 hs).1
    have h1 : tuneBy D (drawS x.2 x.1).id = x.2 := tuneBy_at h hx rfl
    rw [h1]
    exact drawS_true (hr _ (List.mem_map.2 ⟨_, hx, rfl⟩)) (ht _ hx)
  · obtain ⟨x, hx, rfl⟩ := List.mem_map.1 hs
    have h1 : tuneBy D (drawS x.2 x.1).id = x.2 := tuneBy_at h hx rfl
    rw [h1]
    rw [List.getElem?_map] at hl hw
    cases hq : ps[i]? with
    | none => rw [hq] at hl; cases hl
    | some p =>
      rw [hq] at hl hw
      cases hl
      cases hw
      obtain ⟨hp2, hp3⟩ := hp p (List.mem_of_getElem? hq)
      have hy := List.getElem_mem hp2
      unfold loadBy at he ⊢
      rw [List.getElem?_eq_getElem hp2] at he ⊢
      dsimp only at he ⊢
      have e : D[p.1] = x := drawn_ids h hy hx he
      rw [e]
      exact ⟨hp3, readAt_shows (right_parts (hr _ (List.mem_map.2 ⟨_, hx, rfl⟩))).1.1 _ _ _⟩
theorem draw_has {D : Drawn} (h : bayOk (D.map Prod.fst) = true) (ht : ∀ x ∈ D, TuneOk x.1 x.2) {g : Gear} {ps : List (Nat × Int)} (hl : g.loads = ps.map (loadBy D)) (hp : ∀ p ∈ ps, p.1 < D.length ∧ 0 ≤ p.2 ∧ p.2 ≤ 1000000) (h6 : ps.length ≤ 6) (hb : bare g = true) : has (totals (drawB D) g) (g.added + (ps.map Prod.snd).sum) := by
  rw [totals_truth (draw_check h ht hl hp h6 hb), hl]
  exact ⟨_, _, draw_truth h ht hp, rfl⟩

/-- What is known agrees with whether a number is so. -/
def agrees (k : Int) (is : Bool) : Bool := decide (k ≤ 2) && ((!decide (k = 2) || is) && (!decide (k = 0) || !is))
theorem known_agrees {l : List Span} {o : Span} {x : Int} (h : has l x) : agrees (knownR l o) (inb o.lo o.hi x) = true := by
  obtain ⟨s, hs, h1, h2⟩ := h
  have hr := knownR_range l o
  unfold agrees
  have k2 : knownR l o = 2 → inb o.lo o.hi x = true := by
    unfold knownR
    intro h
    split at h
    · rename_i ha
      have := List.all_eq_true.1 ha s hs
      simp only [Bool.and_eq_true, decide_eq_true_eq] at this
      simp [inb]; omega
    · split at h <;> omega
  have k0 : knownR l o = 0 → inb o.lo o.hi x = false := by
    unfold knownR
    intro h
    split at h
    · omega
    · split at h
      · omega
      · rename_i ht
        cases hi : inb o.lo o.hi x with
        | false => rfl
        | true =>
          exfalso
          refine ht (List.any_eq_true.2 ⟨s, hs, ?_⟩)
          simp [inb] at hi ⊢
          omega
  by_cases e2 : knownR l o = 2
  · rw [k2 e2, e2]; rfl
  · by_cases e0 : knownR l o = 0
    · rw [k0 e0, e0]; rfl
    · simp [e2, e0]; omega
theorem common_has {a b : List Span} {x : Int} (ha : has a x) (hb : has b x) : has (commonL a b) x := by
  obtain ⟨s, hs, h1, h2⟩ := ha
  obtain ⟨t, ht, h3, h4⟩ := hb
  refine ⟨⟨max s.lo t.lo, min s.hi t.hi⟩, List.mem_flatMap.2 ⟨s, hs, List.mem_flatMap.2 ⟨t, ht, ?_⟩⟩, by dsimp only; omega, by dsimp only; omega⟩
  rw [if_pos (by omega)]
  exact List.mem_singleton.2 rfl
theorem mem_common {a b : List Span} {u : Span} : u ∈ commonL a b ↔ ∃ s ∈ a, ∃ t ∈ b, max s.lo t.lo ≤ min s.hi t.hi ∧ u = ⟨max s.lo t.lo, min s.hi t.hi⟩ := by
  unfold commonL
  rw [List.mem_flatMap]
  constructor
  · rintro ⟨s, hs, h⟩
    obtain ⟨t, ht, h⟩ := List.mem_flatMap.1 h
    split at h
    · rename_i hc; exact ⟨s, hs, t, ht, hc, List.mem_singleton.1 h⟩
    · cases h
  · rintro ⟨s, hs, t, ht, hc, rfl⟩
    exact ⟨s, hs, List.mem_flatMap.2 ⟨t, ht, by rw [if_pos hc]; exact List.mem_singleton.2 rfl⟩⟩
theorem common_swap {a b : List Span} (u : Span) : u ∈ commonL a b ↔ u ∈ commonL b a := by
  rw [mem_common, mem_common]
  constructor
  · rintro ⟨s, hs, t, ht, hc, rfl⟩
    exact ⟨t, ht, s, hs, by omega, by congr 1 <;> omega⟩
  · rintro ⟨s, hs, t, ht, hc, rfl⟩
    exact ⟨t, ht, s, hs, by omega, by congr 1 <;> omega⟩
theorem known_mem {a b : List Span} (h : ∀ u, u ∈ a ↔ u ∈ b) (o : Span) : knownR a o = knownR b o := by
  have e1 : (a.all fun s => decide (o.lo ≤ s.lo) && decide (s.hi ≤ o.hi)) = (b.all fun s => decide (o.lo ≤ s.lo) && decide (s.hi ≤ o.hi)) := by
    rw [Bool.eq_iff_iff, List.all_eq_true, List.all_eq_true]
    exact ⟨fun k u hu => k u ((h u).2 hu), fun k u hu => k u ((h u).1 hu)⟩
  have e2 : touches a o.lo o.hi = touches b o.lo o.hi := by
    unfold touches
    rw [Bool.eq_iff_iff, List.any_eq_true, List.any_eq_true]
    exact ⟨fun ⟨u, hu, k⟩ => ⟨u, (h u).1 hu, k⟩, fun ⟨u, hu, k⟩ => ⟨u, (h u).2 hu, k⟩⟩
  unfold knownR
  rw [e1, e2]
theorem common_self {l : List Span} (hn : Neat l) (u : Span) : u ∈ commonL l l ↔ u ∈ l := by
  rw [mem_common]
  constructor
  · rintro ⟨s, hs, t, ht, hc, rfl⟩
    have e : s = t := by
      obtain ⟨i, hi, rfl⟩ := List.mem_iff_getElem.1 hs
      obtain ⟨j, hj, rfl⟩ := List.mem_iff_getElem.1 ht
      have hp := List.pairwise_iff_getElem.1 hn.2
      rcases Nat.lt_trichotomy i j with hij | rfl | hij
      · have := hp i j hi hj hij; omega
      · rfl
      · have := hp j i hj hi hij; omega
    subst e
    rw [show (⟨max s.lo s.lo, min s.hi s.hi⟩ : Span) = s by cases s; simp]
    exact hs
  · intro hu
    have := hn.1 u hu
    exact ⟨u, hu, u, hu, by omega, by cases u; simp⟩
/-- Weighed twice: what comes of it. -/
theorem again_of {b : List Scale} {g h : Gear} {n : Norm} (hg : check b g = 0) (hh : check b h = 0) (hn : normB n = true) {x : Int} (h1 : has (totals b g) x) (h2 : has (totals b h) x) :
    againR b g h n = (knownR (commonL (totals b g) (totals b h)) n.total, 0) := by
  have hc := common_has h1 h2
  unfold againR
  rw [if_neg (by simp [hg]), if_neg (by simp [hh]), if_neg (by simp [hn]), if_neg (fun e => by rw [e] at hc; exact has_nil _ hc)]
theorem again_laws {b : List Scale} {g h : Gear} {n : Norm} (hg : check b g = 0) (hh : check b h = 0) (hn : normB n = true) {x : Int} (h1 : has (totals b g) x) (h2 : has (totals b h) x) :
    (againR b g h n).2 = 0 ∧ (againR b h g n).2 = 0 ∧ (againR b g h n).1 = (againR b h g n).1 ∧ agrees (againR b g h n).1 (inb n.total.lo n.total.hi x) = true ∧ againR b g g n = (knownR (totals b g) n.total, 0) ∧ (knownR (totals b g) n.total = 1 ∨ (againR b g h n).1 = knownR (totals b g) n.total) := by
  have hc := common_has h1 h2
  have hnn : n.total.lo ≤ n.total.hi := by simp [normB, ordered] at hn; omega
  rw [again_of hg hh hn h1 h2, again_of hh hg hn h2 h1, again_of hg hg hn h1 h1]
  refine ⟨rfl, rfl, known_mem (fun u => common_swap u) _, known_agrees hc, by rw [known_mem (fun u => common_self (totals_neat b g) u)], ?_⟩
  have := known_opens (o := n.total) (l := commonL (totals b g) (totals b h)) (m := totals b g) (common_full _ _) (totals_neat _ _).1 (fun e => by rw [e] at hc; exact has_nil _ hc) hnn (fun y hy => by
    obtain ⟨u, hu, k1, k2⟩ := hy
    obtain ⟨s, hs, t, ht, _, rfl⟩ := mem_common.1 hu
    dsimp only at k1 k2
    exact ⟨s, hs, by omega, by omega⟩)
  unfold Opens at this
  rcases this with e | e
  · exact .inr e.symm
  · exact .inl e
end Kr
