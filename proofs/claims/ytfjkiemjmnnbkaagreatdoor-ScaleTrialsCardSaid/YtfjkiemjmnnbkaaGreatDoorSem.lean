/-
  What totals mean: a number is a total if and only if some truths of the scales and some weights, which they show, have it. Plain laws.
-/
import Derived.Test.YtfjkiemjmnnbkaaGreatDoorPl
import Derived.Test.YtfjkiemjmnnbkaaGreatDoorPl
import Derived.Test.YtfjkiemjmnnbkaaGreatDoorPl
import Derived.Test.YtfjkiemjmnnbkaaGreatDoorPl
namespace Kr

/-- The weights of a span are those with which the scale shows the number. -/
theorem wt_iff {step gain off n w : Int} (hg : -10 ≤ gain ∧ gain ≤ 10) : ((wt step gain off n).lo ≤ w ∧ w ≤ (wt step gain off n).hi) ↔ (0 ≤ w ∧ w ≤ 1000000) ∧ showsB gain off w n step = true := by
  unfold wt showsB
  have hd : 0 < 1000 + gain := by omega
  simp only [Int.max_le, Int.le_min, Bool.and_eq_true, decide_eq_true_eq]
  have h1 : -(-1000 * (n - off) / (1000 + gain)) ≤ w ↔ 1000 * n ≤ w * (1000 + gain) + 1000 * off := by
    rw [show (-(-1000 * (n - off) / (1000 + gain)) ≤ w) ↔ (-w ≤ -1000 * (n - off) / (1000 + gain)) by omega, Int.le_ediv_iff_mul_le hd, Int.neg_mul]
    omega
  have h2 : w ≤ (1000 * (n + step - off) - 1) / (1000 + gain) ↔ w * (1000 + gain) + 1000 * off < 1000 * (n + step) := by
    rw [Int.le_ediv_iff_mul_le hd]
    omega
  rw [h1, h2]
  constructor
  · rintro ⟨⟨a, b⟩, c, d⟩; exact ⟨⟨a, c⟩, b, d⟩
  · rintro ⟨⟨a, c⟩, b, d⟩; exact ⟨⟨a, b⟩, c, d⟩

theorem mem_tunesN {s : Scale} {g : Int} {n : Nat} {t : Tune} : t ∈ tunesN s g n ↔ (g ≤ t.gain ∧ t.gain < g + n) ∧ t.off = offs s t.gain ∧ t.off.lo ≤ t.off.hi := by
  induction n with
  | zero => simp only [tunesN, List.not_mem_nil, false_iff]; omega
  | succ n ih =>
    rw [tunesN, List.mem_append, ih]
    unfold tuneAt
    constructor
    · rintro (⟨h1, h2, h3⟩ | h)
      · exact ⟨by omega, h2, h3⟩
      · split at h
        · rw [List.mem_singleton.1 h]; dsimp only; exact ⟨by omega, rfl, by assumption⟩
        · cases h
    · rintro ⟨h1, h2, h3⟩
      by_cases hc : t.gain < g + n
      · exact .inl ⟨⟨h1.1, hc⟩, h2, h3⟩
      · right
        have e : g + n = t.gain := by omega
        rw [e, ← h2, if_pos h3]
        cases t; simp
theorem mem_tunes {s : Scale} {t : Tune} : t ∈ tunes s ↔ (s.gain.lo ≤ t.gain ∧ t.gain ≤ s.gain.hi) ∧ t.off = offs s t.gain ∧ t.off.lo ≤ t.off.hi := by
  unfold tunes
  rw [mem_tunesN]
  unfold gainN
  constructor
  · rintro ⟨h1, h2⟩; exact ⟨by omega, h2⟩
  · rintro ⟨h1, h2⟩; exact ⟨by omega, h2⟩
theorem mem_partsN {s : Scale} {ls : List Load} {gain lo : Int} {n : Nat} {p : Part} : p ∈ partsN s ls gain lo n ↔ p.gain = gain ∧ (lo ≤ p.off ∧ p.off < lo + n) ∧ partSum s p.gain p.off ls = some p.sum := by
  constructor
  · intro h
    have := partsN_sum h
    exact ⟨this.2.1, this.2.2, this.1⟩
  · rintro ⟨rfl, h1, h2⟩
    induction n with
    | zero => omega
    | succ n ih =>
      rw [partsN, List.mem_append]
      by_cases hc : p.off < lo + n
      · exact .inl (ih ⟨h1.1, hc⟩)
      · right
        have e : lo + n = p.off := by omega
        unfold partAt
        rw [e, h2, List.mem_singleton]
theorem mem_parts {s : Scale} {ls : List Load} {p : Part} : p ∈ parts s ls ↔ trueB s p.gain p.off = true ∧ partSum s p.gain p.off ls = some p.sum := by
  unfold parts partsL
  rw [List.mem_flatMap, trueB_iff]
  unfold partsT
  constructor
  · rintro ⟨t, ht, hp⟩
    have h1 := mem_partsN.1 hp
    have h2 := mem_tunes.1 ht
    have h3 : (offN t : Int) = t.off.hi - t.off.lo + 1 := by unfold offN; omega
    rw [h1.1, ← h2.2.1]
    exact ⟨⟨h2.1, h1.2.1.1, by omega⟩, h1.1 ▸ h1.2.2⟩
  · rintro ⟨⟨h1, h2, h3⟩, h4⟩
    refine ⟨⟨p.gain, offs s p.gain⟩, mem_tunes.2 ⟨h1, rfl, by dsimp only; omega⟩, mem_partsN.2 ⟨rfl, ⟨h2, ?_⟩, h4⟩⟩
    have h5 : (offN ⟨p.gain, offs s p.gain⟩ : Int) = (offs s p.gain).hi - (offs s p.gain).lo + 1 := by unfold offN; dsimp only; omega
    rw [h5]; dsimp only; omega
theorem own_sum {s : Scale} {gain off : Int} (ls : List Load) (o : Span) (h : Full (ownW s gain off ls)) : ls.foldl (addLoad s gain off) (some o) = some ⟨o.lo + sumLo (ownW s gain off ls), o.hi + sumHi (ownW s gain off ls)⟩ := by
  induction ls generalizing o with
  | nil => simp [ownW, sumLo, sumHi]
  | cons l ls ih =>
    rw [ownW_cons] at h
    rw [List.foldl_cons, ownW_cons, sumLo_append, sumHi_append]
    by_cases hl : l.scale = s.id
    · rw [if_pos hl] at h ⊢
      have hc := h _ (List.mem_append_left _ (List.mem_singleton.2 rfl))
      rw [show addLoad s gain off (some o) l = some ⟨o.lo + (wt s.step gain off l.shown).lo, o.hi + (wt s.step gain off l.shown).hi⟩ from by unfold addLoad; rw [if_pos hl]; simp only; rw [if_pos hc], ih _ (fun t ht => h t (List.mem_append_right _ ht))]
      simp [sumLo, sumHi]; omega
    · rw [if_neg hl] at h ⊢
      rw [show addLoad s gain off (some o) l = some o from by unfold addLoad; rw [if_neg hl], ih _ h]
      simp [sumLo, sumHi]
theorem partSum_iff {s : Scale} {gain off : Int} {ls : List Load} {x : Span} : partSum s gain off ls = some x ↔ Full (ownW s gain off ls) ∧ x = ⟨sumLo (ownW s gain off ls), sumHi (ownW s gain off ls)⟩ := by
  constructor
  · intro h; exact (partSum_own h).symm
  · rintro ⟨h, rfl⟩
    unfold partSum
    rw [own_sum ls _ h]; simp

/-- Numbers, one of each span. -/
def Picks : List Int → List Span → Prop
  | [], [] => True
  | w :: ws, s :: l => (s.lo ≤ w ∧ w ≤ s.hi) ∧ Picks ws l
  | _, _ => False
theorem Picks.sum {ws : List Int} {l : List Span} (h : Picks ws l) : sumLo l ≤ ws.sum ∧ ws.sum ≤ sumHi l := by
  induction l generalizing ws with
  | nil => cases ws with
    | nil => simp [sumLo, sumHi]
    | cons w ws => cases h
  | cons s l ih => cases ws with
    | nil => cases h
    | cons w ws =>
      have := ih h.2
      have := h.1
      simp only [sumLo, sumHi, List.map_cons, List.sum_cons] at *
      omega
theorem Picks.len {ws : List Int} {l : List Span} (h : Picks ws l) : ws.length = l.length := by
  induction l generalizing ws with
  | nil => cases ws with
    | nil => rfl
    | cons w ws => cases h
  | cons s l ih => cases ws with
    | nil => cases h
    | cons w ws => simp [ih h.2]
theorem Picks.full {ws : List Int} {l : List Span} (h : Picks ws l) : Full l := by
  induction l generalizing ws with
  | nil => intro s hs; cases hs
  | cons s l ih => cases ws with
    | nil => cases h
    | cons w ws =>
      intro t ht
      rcases List.mem_cons.1 ht with rfl | ht
      · have := h.1; omega
      · exact ih h.2 t ht
theorem picks_layF {l : List Span} (hf : Full l) (need : Int) (h1 : sumLo l ≤ need) (h2 : need ≤ sumHi l) : Picks (layF need l) l ∧ (layF need l).sum = need := by
  induction l generalizing need with
  | nil => simp [layF, Picks, sumLo, sumHi] at *; omega
  | cons s l ih =>
    have hf2 : Full l := fun t ht => hf t (List.mem_cons_of_mem _ ht)
    have hs := hf s (List.mem_cons_self ..)
    have hl := sum_le hf2
    simp only [sumHi, sumLo, List.map_cons, List.sum_cons] at h1 h2 hl ih
    have := ih hf2 (need - max s.lo (need - sumHi l)) (by simp only [sumHi]; omega) (by simp only [sumHi]; omega)
    simp only [layF, Picks, List.sum_cons]
    exact ⟨⟨by simp only [sumHi]; omega, this.1⟩, by rw [this.2]; omega⟩

theorem chosen_le {k : Nat} : ∀ {ps : List (List Part)} {ch : List Part}, GoodAll k ps → Chosen ch ps → (ch.map fun q => q.sum.lo).sum ≤ (ch.map fun q => q.sum.hi).sum
  | [], [], _, _ => by simp
  | [], _ :: _, _, h => by cases h
  | _ :: _, [], _, h => by cases h
  | p :: ps, q :: ch, hg, h => by
    have h1 := hg p (List.mem_cons_self ..) q h.1
    have h2 := chosen_le (fun x hx => hg x (List.mem_cons_of_mem _ hx)) h.2
    simp only [List.map_cons, List.sum_cons]
    omega
/-- What several scales weigh together: some parts', one of each. -/
theorem rest_chosen {k : Nat} {ps : List (List Part)} (hg : GoodAll k ps) (z : Int) : has (restOf ps) z ↔ ∃ ch, Chosen ch ps ∧ (ch.map fun q => q.sum.lo).sum ≤ z ∧ z ≤ (ch.map fun q => q.sum.hi).sum := by
  induction ps generalizing z with
  | nil =>
    constructor
    · rintro ⟨s, hs, h1, h2⟩
      simp [restOf] at hs; subst hs
      exact ⟨[], trivial, by simpa using h1, by simpa using h2⟩
    · rintro ⟨ch, hc, h1, h2⟩
      cases ch with
      | nil => exact ⟨⟨0, 0⟩, by simp [restOf], by simpa using h1, by simpa using h2⟩
      | cons q ch => cases hc
  | cons p ps ih =>
    have hg2 : GoodAll k ps := fun q hq => hg q (List.mem_cons_of_mem _ hq)
    rw [rest_has hg]
    constructor
    · rintro ⟨q, hq, y, hy, h1, h2⟩
      obtain ⟨ch, hc, h3, h4⟩ := (ih hg2 y).1 hy
      exact ⟨q :: ch, ⟨hq, hc⟩, by simp only [List.map_cons, List.sum_cons]; omega, by simp only [List.map_cons, List.sum_cons]; omega⟩
    · rintro ⟨ch, hc, h1, h2⟩
      cases ch with
      | nil => cases hc
      | cons q ch =>
        have hq := hg p (List.mem_cons_self ..) q hc.1
        have hle := chosen_le hg2 hc.2
        simp only [List.map_cons, List.sum_cons] at h1 h2
        refine ⟨q, hc.1, max (ch.map fun q => q.sum.lo).sum (z - q.sum.hi), (ih hg2 _).2 ⟨ch, hc.2, by omega, by omega⟩, by omega, by omega⟩

/-- A truth of the scales that loads name, and weights that they show: what a total is made of. -/
def TruthOf (b : List Scale) (ls : List Load) (T : Int → Int × Int) (ws : List Int) : Prop :=
  (∀ s ∈ used b ls, trueB s (T s.id).1 (T s.id).2 = true) ∧ ws.length = ls.length ∧ ∀ s ∈ b, ∀ (i : Nat) (l : Load) (w : Int), ls[i]? = some l → ws[i]? = some w → l.scale = s.id → (0 ≤ w ∧ w ≤ 1000000) ∧ showsB (T s.id).1 (T s.id).2 w l.shown s.step = true
/-- The spans of the loads by a truth. -/
def spanOf (b : List Scale) (T : Int → Int × Int) (l : Load) : Span := match b.find? (fun s => s.id == l.scale) with | some s => wt s.step (T s.id).1 (T s.id).2 l.shown | none => ⟨0, -1⟩
theorem ids_eq {b : List Scale} (hp : b.Pairwise IdLt) {s t : Scale} (hs : s ∈ b) (ht : t ∈ b) (h : s.id = t.id) : s = t := by
  obtain ⟨i, hi, rfl⟩ := List.mem_iff_getElem.1 hs
  obtain ⟨j, hj, rfl⟩ := List.mem_iff_getElem.1 ht
  rw [List.pairwise_iff_getElem] at hp
  rcases Nat.lt_trichotomy i j with hij | rfl | hij
  · have := hp i j hi hj hij; unfold IdLt at this; omega
  · rfl
  · have := hp j i hj hi hij; unfold IdLt at this; omega
theorem find_id {b : List Scale} (hp : b.Pairwise IdLt) {s : Scale} (hs : s ∈ b) {n : Int} (h : n = s.id) : b.find? (fun s => s.id == n) = some s := by
  have h1 : (b.find? (fun s => s.id == n)).isSome := List.find?_isSome.2 ⟨s, hs, by simp [h]⟩
  obtain ⟨t, ht⟩ := Option.isSome_iff_exists.1 h1
  rw [ht]
  have h2 := List.mem_of_find?_eq_some ht
  have h3 := List.find?_some ht
  simp at h3
  rw [ids_eq hp h2 hs (by omega)]
theorem truthOf_picks {b : List Scale} {ls : List Load} {T : Int → Int × Int} {ws : List Int} (hp : b.Pairwise IdLt) (hl : ∀ l ∈ ls, ∃ s ∈ b, s.id = l.scale) (hT : ∀ s ∈ used b ls, -10 ≤ (T s.id).1 ∧ (T s.id).1 ≤ 10) :
    (ws.length = ls.length ∧ ∀ s ∈ b, ∀ (i : Nat) (l : Load) (w : Int), ls[i]? = some l → ws[i]? = some w → l.scale = s.id → (0 ≤ w ∧ w ≤ 1000000) ∧ showsB (T s.id).1 (T s.id).2 w l.shown s.step = true) ↔ Picks ws (ls.map (spanOf b T)) := by
  have key : ∀ l ∈ ls, ∀ s ∈ b, l.scale = s.id → ∀ w, ((spanOf b T l).lo ≤ w ∧ w ≤ (spanOf b T l).hi) ↔ (0 ≤ w ∧ w ≤ 1000000) ∧ showsB (T s.id).1 (T s.id).2 w l.shown s.step = true := by
    intro l hl s hs he w
    unfold spanOf
    rw [find_id hp hs he]
    exact wt_iff (hT s (List.mem_filter.2 ⟨hs, List.any_eq_true.2 ⟨l, hl, by simp [he]⟩⟩))
  clear hT
  induction ls generalizing ws with
  | nil => cases ws with
    | nil => simp [Picks]
    | cons w ws => simp [Picks]
  | cons l ls ih => cases ws with
    | nil => simp [Picks]
    | cons w ws =>
      simp only [List.map_cons, Picks]
      refine Iff.trans ?_ (and_congr Iff.rfl (ih (ws := ws) (fun l h => hl l (List.mem_cons_of_mem _ h)) (fun l h => key l (List.mem_cons_of_mem _ h))))
      obtain ⟨s, hs, he⟩ := hl l (List.mem_cons_self ..)
      have hk := key l (List.mem_cons_self ..) s hs he.symm w
      constructor
      · rintro ⟨h1, h2⟩
        refine ⟨hk.2 (h2 s hs 0 l w rfl rfl he.symm), by simpa using h1, fun s hs i l w h3 h4 h5 => h2 s hs (i + 1) l w (by simpa using h3) (by simpa using h4) h5⟩
      · rintro ⟨h1, h2, h3⟩
        refine ⟨by simpa using h2, fun s' hs' i l' w' h4 h5 h6 => ?_⟩
        cases i with
        | zero =>
          simp at h4 h5
          subst h4 h5
          rw [ids_eq hp hs' hs (by omega)]
          exact hk.1 h1
        | succ i => exact h3 s' hs' i l' w' (by simpa using h4) (by simpa using h5) h6
theorem gath_by {b : List Scale} {T : Int → Int × Int} {U : List Scale} {ch : List Part} (hp : U.Pairwise IdLt) {l : Load} (hlen : ch.length = U.length) (hT : ∀ x ∈ U.zip ch, (x.2.gain, x.2.off) = T x.1.id) (hl : ∃ s ∈ U, s.id = l.scale) (hf : ∀ s ∈ U, b.find? (fun t => t.id == s.id) = some s) : gath (U.zip ch) l = [spanOf b T l] := by
  induction U generalizing ch with
  | nil => obtain ⟨s, hs, _⟩ := hl; cases hs
  | cons s U ih => cases ch with
    | nil => simp at hlen
    | cons q ch =>
      rw [List.zip_cons_cons] at hT ⊢
      rw [gath_cons]
      have hpw := List.pairwise_cons.1 hp
      by_cases he : s.id = l.scale
      · rw [if_pos he]
        have hno : gath (U.zip ch) l = [] := by
          unfold gath
          rw [List.flatMap_eq_nil_iff]
          intro x hx
          have h1 := hpw.1 x.1 (List.of_mem_zip hx).1
          unfold IdLt at h1
          rw [if_neg (by omega)]
        have h2 := hT (s, q) (List.mem_cons_self ..)
        dsimp only at h2
        rw [hno, List.append_nil]
        unfold spanOf
        rw [← he, hf s (List.mem_cons_self ..)]
        dsimp only
        rw [← h2]
      · rw [if_neg he, List.nil_append]
        refine ih hpw.2 (by simpa using hlen) (fun x hx => hT x (List.mem_cons_of_mem _ hx)) ?_ (fun t ht => hf t (List.mem_cons_of_mem _ ht))
        obtain ⟨t, ht, h3⟩ := hl
        rcases List.mem_cons.1 ht with rfl | ht
        · exact absurd h3 he
        · exact ⟨t, ht, h3⟩
theorem gathL_by {b : List Scale} {ls : List Load} {T : Int → Int × Int} {U : List Scale} {ch : List Part} (hp : U.Pairwise IdLt) (hlen : ch.length = U.length) (hT : ∀ x ∈ U.zip ch, (x.2.gain, x.2.off) = T x.1.id) (hl : ∀ l ∈ ls, ∃ s ∈ U, s.id = l.scale) (hf : ∀ s ∈ U, b.find? (fun t => t.id == s.id) = some s) : gathL (U.zip ch) ls = ls.map (spanOf b T) := by
  unfold gathL
  induction ls with
  | nil => rfl
  | cons l ls ih =>
    rw [List.flatMap_cons, List.map_cons, ih (fun l h => hl l (List.mem_cons_of_mem _ h)), gath_by hp hlen hT (hl l (List.mem_cons_self ..)) hf]
    rfl
theorem bayOk_ids {b : List Scale} (h : bayOk b = true) : b.Pairwise IdLt := by
  unfold bayOk at h
  simp at h
  exact (bayFrom_ids h.1).2
theorem bayOk_right {b : List Scale} (h : bayOk b = true) : ∀ s ∈ b, right s = true := by
  unfold bayOk at h
  simp at h
  exact bayFrom_right h.1
theorem gearOk_at {b : List Scale} {g : Gear} (h : gearOk b g = true) : ∀ l ∈ g.loads, ∃ s ∈ b, s.id = l.scale := by
  intro l hl
  simp [gearOk] at h
  have h1 := h.1.1 l hl
  unfold loadOk at h1
  split at h1
  · rename_i s hs
    exact ⟨s, List.mem_of_find?_eq_some hs, by simpa using List.find?_some hs⟩
  · cases h1
theorem used_at {b : List Scale} {ls : List Load} (hl : ∀ l ∈ ls, ∃ s ∈ b, s.id = l.scale) : ∀ l ∈ ls, ∃ s ∈ used b ls, s.id = l.scale := by
  intro l h
  obtain ⟨s, hs, he⟩ := hl l h
  exact ⟨s, List.mem_filter.2 ⟨hs, List.any_eq_true.2 ⟨l, h, by simp [he]⟩⟩, he⟩
theorem trueB_gain {s : Scale} (hr : right s = true) {x y : Int} (h : trueB s x y = true) : (-10 ≤ x ∧ x ≤ 10) ∧ (-100 ≤ y ∧ y ≤ 100) := by
  simp [trueB, inb] at h
  simp [right, inb, ordered] at hr
  omega
theorem chosen_of {ls : List Load} {U : List Scale} (P : Scale → Part) (h : ∀ s ∈ U, P s ∈ parts s ls) : Chosen (U.map P) (U.map fun s => parts s ls) := by
  induction U with
  | nil => trivial
  | cons s U ih => exact ⟨h s (List.mem_cons_self ..), ih (fun s hs => h s (List.mem_cons_of_mem _ hs))⟩
/-- The truth that some chosen parts are. -/
def tuneOf (Z : List (Scale × Part)) (n : Int) : Int × Int := match Z.find? (fun x => x.1.id == n) with | some x => (x.2.gain, x.2.off) | none => (0, 0)
theorem tuneOf_zip {Z : List (Scale × Part)} (hp : Z.Pairwise fun a b => a.1.id < b.1.id) {x : Scale × Part} (hx : x ∈ Z) : tuneOf Z x.1.id = (x.2.gain, x.2.off) := by
  unfold tuneOf
  have h1 : (Z.find? (fun y => y.1.id == x.1.id)).isSome := List.find?_isSome.2 ⟨x, hx, by simp⟩
  obtain ⟨y, hy⟩ := Option.isSome_iff_exists.1 h1
  rw [hy]
  have h2 := List.mem_of_find?_eq_some hy
  have h3 := List.find?_some hy
  simp at h3
  obtain ⟨i, hi, rfl⟩ := List.mem_iff_getElem.1 hx
  obtain ⟨j, hj, rfl⟩ := List.mem_iff_getElem.1 h2
  rw [List.pairwise_iff_getElem] at hp
  rcases Nat.lt_trichotomy i j with hij | rfl | hij
  · have := hp i j hi hj hij; omega
  · rfl
  · have := hp j i hj hi hij; omega
/-- A number is a total if and only if it is that of some truth. -/
theorem totals_truth {b : List Scale} {g : Gear} (h : check b g = 0) (x : Int) : has (totals b g) x ↔ ∃ T ws, TruthOf b g.loads T ws ∧ g.added + ws.sum = x := by
  obtain ⟨hb, hg⟩ := check_zero h
  have hp := bayOk_ids hb
  have hr := bayOk_right hb
  have hl := gearOk_at hg
  have hlu := used_at hl
  have hpu := used_ids hb g.loads
  have hsub : ∀ s ∈ used b g.loads, s ∈ b := fun s hs => (List.mem_filter.1 hs).1
  have hfu : ∀ s ∈ used b g.loads, b.find? (fun t => t.id == s.id) = some s := fun s hs => find_id hp (hsub s hs) rfl
  rw [totals_has, rest_chosen (goodAll _ _)]
  constructor
  · rintro ⟨ch, hc, h1, h2⟩
    have hlen : ch.length = (used b g.loads).length := by rw [chosen_len hc, List.length_map]
    have hzp := zip_ids hpu ch
    have hT : ∀ x ∈ (used b g.loads).zip ch, (x.2.gain, x.2.off) = tuneOf ((used b g.loads).zip ch) x.1.id := fun x hx => (tuneOf_zip hzp hx).symm
    have hs := chosen_sum hc
    have hful := chosen_full hc
    rw [gathL_by (b := b) hpu hlen hT hlu hfu] at hs hful
    have htrue : ∀ s ∈ used b g.loads, trueB s (tuneOf ((used b g.loads).zip ch) s.id).1 (tuneOf ((used b g.loads).zip ch) s.id).2 = true := by
      intro s hs
      obtain ⟨i, hi, rfl⟩ := List.mem_iff_getElem.1 hs
      have hz : ((used b g.loads)[i], ch[i]) ∈ (used b g.loads).zip ch := List.mem_of_getElem? (i := i) (by rw [List.getElem?_zip_eq_some]; exact ⟨List.getElem?_eq_getElem hi, List.getElem?_eq_getElem (by omega)⟩)
      have h3 := hT _ hz
      dsimp only at h3
      rw [← h3]
      exact (mem_parts.1 (chosen_zip hc _ hz).2).1
    refine ⟨_, layF (x - g.added) (g.loads.map (spanOf b (tuneOf ((used b g.loads).zip ch)))), ⟨htrue, ?_⟩, ?_⟩
    · rw [truthOf_picks hp hl (fun s hs => (trueB_gain (hr s (hsub s hs)) (htrue s hs)).1)]
      exact (picks_layF hful _ (by omega) (by omega)).1
    · rw [(picks_layF hful _ (by omega) (by omega)).2]; omega
  · rintro ⟨T, ws, ⟨htrue, hrest⟩, rfl⟩
    rw [truthOf_picks hp hl (fun s hs => (trueB_gain (hr s (hsub s hs)) (htrue s hs)).1)] at hrest
    have hful := hrest.full
    have hsum := hrest.sum
    have hown : ∀ s ∈ used b g.loads, Full (ownW s (T s.id).1 (T s.id).2 g.loads) := by
      intro s hs t ht
      obtain ⟨l, hl2, rfl⟩ := List.mem_map.1 ht
      obtain ⟨hl2, he⟩ := List.mem_filter.1 hl2
      refine hful _ (List.mem_map.2 ⟨l, hl2, ?_⟩)
      unfold spanOf
      rw [find_id hp (hsub s hs) (by simpa using he)]
    have hc := chosen_of (ls := g.loads) (U := used b g.loads) (fun s => ⟨(T s.id).1, (T s.id).2, ⟨sumLo (ownW s (T s.id).1 (T s.id).2 g.loads), sumHi (ownW s (T s.id).1 (T s.id).2 g.loads)⟩⟩) (fun s hs => mem_parts.2 ⟨htrue s hs, partSum_iff.2 ⟨hown s hs, rfl⟩⟩)
    refine ⟨_, hc, ?_⟩
    have hs := chosen_sum hc
    rw [← hs.1, ← hs.2, gathL_by (b := b) (T := T) hpu (by rw [List.length_map]) ?_ hlu hfu]
    · omega
    · intro x hx
      rw [List.zip_map_right] at hx
      obtain ⟨y, hy, rfl⟩ := List.mem_map.1 hx
      have h9 := List.of_mem_zip hy
      have : y.1 = y.2 := by
        obtain ⟨i, hi, rfl⟩ := List.mem_iff_getElem.1 hy
        simp
      simp [this]
end Kr
