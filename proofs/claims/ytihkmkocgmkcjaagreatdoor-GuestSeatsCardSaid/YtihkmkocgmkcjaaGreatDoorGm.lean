/-
  A map from ints to ints: what it has, as a predicate and a function. Plain laws.
-/
import Derived.Test.YtihkmkocgmkcjaaGreatDoorGp
import Derived.Test.YtihkmkocgmkcjaaGreatDoorBs
import Derived.Maps.RangeWalk
namespace Go
open Go.RowKit Go.Maps Kr
set_option linter.unusedVariables false
set_option linter.unusedSimpArgs false

/-- A map that has the keys of p, each with the value of f. -/
structure MapOf (D : DataW Value) (p : Int → Bool) (f : Int → Int) : Prop where
  isMap : IsMap D
  has_ : ∀ i, Maps.has D (.int .i64 i) = p i
  at_ : ∀ i z, D.atKey (.int .i64 i) z = if p i = true then .held (.int .i64 (f i)) else z
theorem MapOf.nil : MapOf (.map []) (fun _ => false) (fun _ => 0) := ⟨isMap_empty, fun _ => rfl, fun _ _ => rfl⟩
theorem MapOf.same {D : DataW Value} {p q : Int → Bool} {f g : Int → Int} (h : MapOf D p f) (hp : ∀ i, p i = q i) (hf : ∀ i, q i = true → f i = g i) : MapOf D q g := by
  refine ⟨h.isMap, fun i => by rw [h.has_, hp], fun i z => ?_⟩
  rw [h.at_, hp]
  by_cases hq : q i = true
  · rw [if_pos hq, if_pos hq, hf i hq]
  · rw [if_neg hq, if_neg hq]
theorem MapOf.put {D : DataW Value} {p : Int → Bool} {f : Int → Int} (h : MapOf D p f) (i c : Int) : MapOf (D.put (.int .i64 i) (.held (.int .i64 c))) (fun j => j == i || p j) (fun j => if j = i then c else f j) := by
  refine ⟨h.isMap.put _ _, fun j => ?_, fun j z => ?_⟩
  · by_cases hj : j = i
    · subst hj; rw [has_put_same h.isMap (keyLit j)]; simp
    · rw [has_put_other (by intro e; cases e; exact hj rfl), h.has_]
      have : (j == i) = false := by simpa using hj
      simp [this]
  · by_cases hj : j = i
    · subst hj; rw [atKey_put_same h.isMap (keyLit j)]; simp
    · rw [atKey_put_other (by intro e; cases e; exact hj rfl), h.at_]
      have : (j == i) = false := by simpa using hj
      simp [this, hj]
theorem MapOf.del {D : DataW Value} {p : Int → Bool} {f : Int → Int} (h : MapOf D p f) (i : Int) : MapOf (D.del (.int .i64 i)) (fun j => !(j == i) && p j) f := by
  refine ⟨h.isMap.del _, fun j => ?_, fun j z => ?_⟩
  · by_cases hj : j = i
    · subst hj; rw [has_del_same]; simp
    · rw [has_del_other (by intro e; cases e; exact hj rfl), h.has_]
      have : (j == i) = false := by simpa using hj
      simp [this]
  · by_cases hj : j = i
    · subst hj; rw [atKey_del_same]; simp
    · rw [atKey_del_other (by intro e; cases e; exact hj rfl), h.at_]
      have : (j == i) = false := by simpa using hj
      simp [this]
/-- What a key of the map reads as. -/
theorem MapOf.val {D : DataW Value} {p : Int → Bool} {f : Int → Int} (h : MapOf D p f) {i : Int} {y : DataW Value} (hat : ∀ zd, D.atKey (.int .i64 i) zd = y) : p i = true ∧ y = .held (.int .i64 (f i)) := by
  have hp : p i = true := by rw [← h.has_]; exact has_true_of_atKey hat
  have h1 := hat y
  rw [h.at_, if_pos hp] at h1
  exact ⟨hp, h1.symm⟩

/-- Which keys have come: none twice; those that the map has and that are no longer to come. -/
def Came (p : Int → Bool) (left : Lit → Bool) (ks : List Int) : Prop := ks.Nodup ∧ ∀ x, x ∈ ks ↔ (p x = true ∧ left (.int .i64 x) = false)
theorem Came.start {D : DataW Value} {p : Int → Bool} {f : Int → Int} (h : MapOf D p f) : Came p (Maps.has D) [] := ⟨List.nodup_nil, fun x => by rw [h.has_]; cases p x <;> simp⟩
theorem Came.step {p : Int → Bool} {left : Lit → Bool} {ks : List Int} (h : Came p left ks) {x : Int} (hp : p x = true) (hl : left (.int .i64 x) = true) : Came p (fun z => left z && !z.sameKey (.int .i64 x)) (ks ++ [x]) := by
  have hn : x ∉ ks := fun hx => by rw [((h.2 x).1 hx).2] at hl; cases hl
  refine ⟨?_, fun y => ?_⟩
  · rw [List.nodup_append]
    exact ⟨h.1, by simp, fun a ha b hb => by rw [List.mem_singleton.1 hb]; exact fun e => hn (e ▸ ha)⟩
  · rw [List.mem_append, List.mem_singleton, h.2 y]
    by_cases hy : y = x
    · subst hy; simp [hp, Lit.sameKey]
    · have e2 : (Lit.int .i64 y).sameKey (.int .i64 x) = false := sameKey_ne (fun e => hy (by cases e; rfl))
      simp [e2, hy]
theorem perm_sum {l l' : List Int} (h : l.Perm l') : l.sum = l'.sum := by
  induction h with
  | nil => rfl
  | cons x _ ih => rw [List.sum_cons, List.sum_cons, ih]
  | swap x y l => rw [List.sum_cons, List.sum_cons, List.sum_cons, List.sum_cons]; omega
  | trans _ _ h1 h2 => rw [h1, h2]
/-- The keys that came, whatever their order. -/
theorem came_perm {p : Int → Bool} {n : Nat} {ks : List Int} (hn : ks.Nodup) (hm : ∀ x, x ∈ ks ↔ p x = true) (hp : ∀ x, p x = true → 0 ≤ x ∧ x < (n : Int)) : ks.Perm (((List.range n).map Int.ofNat).filter p) := by
  rw [List.perm_ext_iff_of_nodup hn]
  · intro x
    rw [hm x, List.mem_filter, List.mem_map]
    constructor
    · intro h
      have := hp x h
      exact ⟨⟨x.toNat, List.mem_range.2 (by omega), by show ((x.toNat : Nat) : Int) = x; omega⟩, h⟩
    · exact fun h => h.2
  · refine List.Nodup.sublist List.filter_sublist ?_
    exact List.Pairwise.map _ (fun a b hab => by intro e; exact hab (Int.ofNat.inj e)) List.nodup_range
theorem came_len {p : Int → Bool} {n : Nat} {ks : List Int} (hn : ks.Nodup) (hm : ∀ x, x ∈ ks ↔ p x = true) (hp : ∀ x, p x = true → 0 ≤ x ∧ x < (n : Int)) : ks.length ≤ n := by
  rw [(came_perm hn hm hp).length_eq]
  refine Nat.le_trans (List.length_filter_le _ _) ?_
  simp
/-- The values of all keys that came, whatever their order. -/
theorem sum_came {p : Int → Bool} {f g : Int → Int} {n : Nat} {ks : List Int} (hn : ks.Nodup) (hm : ∀ x, x ∈ ks ↔ p x = true) (hp : ∀ x, p x = true → 0 ≤ x ∧ x < (n : Int)) (hz : ∀ x, 0 ≤ x → x < (n : Int) → g x = if p x = true then f x else 0) : (ks.map f).sum = sumTo g n := by
  have hl := came_perm hn hm hp
  rw [perm_sum (hl.map f)]
  clear hl hm hn hp
  have key : ∀ m : Nat, m ≤ n → ((((List.range m).map Int.ofNat).filter p).map f).sum = sumTo g m := by
    intro m
    induction m with
    | zero => intro _; rfl
    | succ m ih =>
      intro hm
      have h1 := ih (by omega)
      rw [List.range_succ, List.map_append, List.filter_append, List.map_append, List.sum_append, h1]
      have h2 := hz (m : Int) (by omega) (by omega)
      simp only [sumTo]
      rw [h2]
      by_cases hq : p (m : Int) = true
      · rw [if_pos hq]; simp [hq]
      · rw [if_neg hq]; simp [hq]
  exact key n (Nat.le_refl n)
end Go
