/-
  What the statement on ballast asks of the pieces that are told. Plain laws.
-/
import Derived.Test.YtfjkiemjmnnbkaaGreatDoorBest
namespace Kr

theorem membersN_inc (set n : Nat) : (membersN set n).Pairwise (· < ·) := List.Pairwise.filter _ List.pairwise_lt_range
theorem inc_at {l : List Nat} (h : l.Pairwise (· < ·)) {i x y : Nat} (hx : l[i]? = some x) (hy : l[i + 1]? = some y) : x < y := by
  obtain ⟨h1, rfl⟩ := List.getElem?_eq_some_iff.1 hx
  obtain ⟨h2, rfl⟩ := List.getElem?_eq_some_iff.1 hy
  exact List.pairwise_iff_getElem.1 h i (i + 1) h1 h2 (by omega)
theorem weighN_snoc (pieces : List Int) (m : List Nat) (k : Nat) : weighN pieces (m ++ [k]) = weighN pieces m + pieces.getD k 0 := by simp [weighN]
theorem weighN_bd {pieces : List Int} (h : inAll 0 1000000 pieces = true) : ∀ (m : List Nat), 0 ≤ weighN pieces m ∧ weighN pieces m ≤ 1000000 * m.length
  | [] => by simp [weighN]
  | k :: m => by
    have ih := weighN_bd h m
    have hk : 0 ≤ pieces.getD k 0 ∧ pieces.getD k 0 ≤ 1000000 := by
      rw [List.getD_eq_getElem?_getD]
      cases hq : pieces[k]? with
      | none => simp
      | some x =>
        have := List.all_eq_true.1 h x (List.mem_of_getElem? hq)
        simp [inb] at this
        simpa using this
    simp only [weighN, List.map_cons, List.sum_cons, List.length_cons] at ih ⊢
    omega
theorem lexB_first : ∀ {a b : List Nat}, a.length = b.length → lexB b a = false → ∀ (i x y : Nat), a[i]? = some x → b[i]? = some y → (∀ j < i, a[j]? = b[j]?) → x ≠ y → x < y
  | [], _, _, _, i, x, y, h, _, _, _ => by simp at h
  | _ :: _, [], h, _, _, _, _, _, _, _, _ => by simp at h
  | p :: a, q :: b, hl, h, i, x, y, hx, hy, hj, hne => by
    unfold lexB at h
    cases i with
    | zero =>
      simp at hx hy
      subst hx hy
      rw [if_neg (fun e => hne e.symm)] at h
      simp at h
      omega
    | succ i =>
      have h0 := hj 0 (by omega)
      simp at h0
      rw [if_pos h0.symm] at h
      exact lexB_first (by simpa using hl) h i x y (by simpa using hx) (by simpa using hy) (fun j hj' => by have := hj (j + 1) (by omega); simpa using this) hne
/-- Whether some pieces can be added at all. -/
def canR (b : List Scale) (g : Gear) (n : Norm) (pieces : List Int) (others : Nat) : Bool := decide (weighN pieces (membersN others pieces.length) ≤ 1000000) && passR b g n (weighN pieces (membersN others pieces.length))
theorem pass_none {b : List Scale} {g : Gear} {n : Norm} (h : check b g = 0) (hs : g.strokes = []) (hn : normB n = true) (ht : totals b { g with added := 0 } = []) {a : Int} (ha : 0 ≤ a ∧ a ≤ 1000000) : passR b g n a = false := by
  have hck : check b { g with added := a } = 0 := by
    have := check_added h ha
    rwa [show ({ g with added := a, strokes := [] } : Gear) = { g with added := a } by rw [← hs]] at this
  have e : totals b { g with added := a } = shift a (totals b { g with added := 0 }) := by
    have := totals_shift b { g with added := 0 } a
    simpa using this
  rw [ht, show shift a [] = [] from rfl] at e
  unfold passR judgeR
  rw [if_neg (by simp [hck]), if_neg (by simp [hn]), if_pos e]
  rfl
/-- What the statement asks, case by case. -/
theorem ballast_law {b : List Scale} {g : Gear} {n : Norm} {pieces : List Int} (h : check b g = 0) (hs : g.strokes = []) (hn : normB n = true) (hp : inAll 0 1000000 pieces = true) (h8 : pieces.length ≤ 8) (others : Nat) :
    (((ballastR b g n pieces).1 = [] ∧ ((ballastR b g n pieces).2 = 6 ∨ (ballastR b g n pieces).2 = 8)) ∧ canR b g n pieces others = false) ∨
    ((ballastR b g n pieces).2 = 0 ∧ (∃ k, (ballastR b g n pieces).1 = membersN k pieces.length) ∧ (weighN pieces (ballastR b g n pieces).1 ≤ 1000000 ∧ passR b g n (weighN pieces (ballastR b g n pieces).1) = true) ∧
      (canR b g n pieces others = true → lessC (choiceOf pieces others) ⟨weighN pieces (ballastR b g n pieces).1, (ballastR b g n pieces).1⟩ = false)) := by
  have hlen : ∀ k, (membersN k pieces.length).length ≤ pieces.length := fun k => by
    unfold membersN
    exact Nat.le_trans (List.length_filter_le _ _) (by simp)
  have hw := fun k => (weighN_bd hp (membersN k pieces.length)).1
  have hcan : ∀ (ht : totals b { g with added := 0 } ≠ []), canR b g n pieces others = true → fitsC n (totals b { g with added := 0 }) (choiceOf pieces (others % 2 ^ pieces.length)) = true := by
    intro ht hc
    unfold canR at hc
    rw [Bool.and_eq_true, decide_eq_true_eq] at hc
    rw [choice_mod]
    rw [← pass_fits h hs hn ht (choiceOf pieces others) ⟨hw _, hc.1⟩]
    exact hc.2
  have hmod : others % 2 ^ pieces.length < 2 ^ pieces.length := Nat.mod_lt _ (Nat.two_pow_pos _)
  have e0 : ballastR b g n pieces = if totals b { g with added := 0 } = [] then (([], 6) : List Nat × Int) else match bestOf n (totals b { g with added := 0 }) pieces (2 ^ pieces.length) with | none => (([], 8) : List Nat × Int) | some c => (c.pieces, 0) := by
    unfold ballastR
    rw [if_neg (by simp [h]), if_neg (by simp [hn]), if_neg (by simp [hp, h8])]
    by_cases ht : totals b { g with added := 0 } = []
    · rw [if_pos ht, if_pos ht]
    · rw [if_neg ht, if_neg ht]
      cases bestOf n (totals b { g with added := 0 }) pieces (2 ^ pieces.length) <;> rfl
  rw [e0]
  by_cases ht : totals b { g with added := 0 } = []
  · left
    rw [if_pos ht]
    refine ⟨⟨rfl, .inl rfl⟩, ?_⟩
    unfold canR
    by_cases hc : weighN pieces (membersN others pieces.length) ≤ 1000000
    · rw [pass_none h hs hn ht ⟨hw _, hc⟩, Bool.and_false]
    · simp [hc]
  · rw [if_neg ht]
    cases hb : bestOf n (totals b { g with added := 0 }) pieces (2 ^ pieces.length) with
    | none =>
      left
      refine ⟨⟨rfl, .inr rfl⟩, ?_⟩
      cases hc : canR b g n pieces others with
      | false => rfl
      | true =>
        have h1 := hcan ht hc
        rw [bestOf_none hb _ hmod] at h1
        cases h1
    | some c =>
      right
      obtain ⟨⟨k, hk, hck, hf⟩, hleast⟩ := bestOf_least hb
      have ew : weighN pieces c.pieces = c.weight := by rw [hck]; rfl
      have hadd : n.added ≤ 1000000 := by simp [normB, inb] at hn; omega
      have hle : c.weight ≤ 1000000 := by
        unfold fitsC at hf
        simp at hf
        omega
      have h0 : 0 ≤ c.weight := by rw [← ew, hck]; exact hw k
      dsimp only
      rw [ew]
      refine ⟨rfl, ⟨k, by rw [hck]; rfl⟩, ⟨hle, by rw [pass_fits h hs hn ht c ⟨h0, hle⟩]; exact hf⟩, fun hc => ?_⟩
      have h1 := hleast _ hmod (hcan ht hc)
      rw [choice_mod] at h1
      exact h1
theorem check_bare {b : List Scale} {g : Gear} (h : check b g = 0) : check b { g with strokes := [] } = 0 := by
  have hb := bare_bounds (gearOk_bare (check_zero h).2)
  have := check_added h hb.1
  exact this
end Kr
