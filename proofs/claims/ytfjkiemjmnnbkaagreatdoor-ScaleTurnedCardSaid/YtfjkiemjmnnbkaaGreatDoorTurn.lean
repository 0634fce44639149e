/-
  Loads in another order, and scales under other numbers: the same totals, judged alike. Plain laws.
-/
import Derived.Test.YtfjkiemjmnnbkaaGreatDoorSem
import Derived.Test.YtfjkiemjmnnbkaaGreatDoorTq
namespace Kr

/-- A list turned: its elements from a place on, then those before it. -/
def turnL {α : Type} (k : Nat) (l : List α) : List α := l.drop (k % l.length) ++ l.take (k % l.length)
theorem turnL_perm {α : Type} (k : Nat) (l : List α) : l.Perm (turnL k l) := by
  unfold turnL
  exact (List.take_append_drop (k % l.length) l ▸ List.perm_append_comm : l.Perm _)
theorem turnL_len {α : Type} (k : Nat) (l : List α) : (turnL k l).length = l.length := (turnL_perm k l).length_eq.symm
theorem turnL_get {α : Type} (k : Nat) (l : List α) {i : Nat} (hi : i < l.length) : (turnL k l)[i]? = l[(i + k) % l.length]? := by
  have hm : k % l.length < l.length := Nat.mod_lt _ (by omega)
  have e : (i + k) % l.length = (i + k % l.length) % l.length := by rw [Nat.add_mod_mod]
  unfold turnL
  rw [e]
  generalize k % l.length = m at *
  by_cases hc : i < l.length - m
  · rw [List.getElem?_append_left (by simp; omega), List.getElem?_drop, Nat.mod_eq_of_lt (by omega), Nat.add_comm]
  · rw [List.getElem?_append_right (by simp; omega), List.length_drop, List.getElem?_take_of_lt (by omega), Nat.mod_eq_sub_mod (by omega), Nat.mod_eq_of_lt (by omega)]
    congr 1
    omega

/-- Whatever a list's elements carry goes with them into another order. -/
theorem perm_zip {α : Type} {ls ls' : List α} (h : ls.Perm ls') : ∀ ws : List Int, ws.length = ls.length → ∃ ws', ws'.length = ls'.length ∧ ws'.sum = ws.sum ∧ ∀ p, p ∈ ls'.zip ws' → p ∈ ls.zip ws := by
  induction h with
  | nil => intro ws hw; exact ⟨ws, hw, rfl, fun _ h => h⟩
  | cons x _ ih =>
    intro ws hw
    cases ws with
    | nil => simp at hw
    | cons w ws =>
      obtain ⟨ws', h1, h2, h3⟩ := ih ws (by simpa using hw)
      refine ⟨w :: ws', by simp [h1], by simp [h2], fun p hp => ?_⟩
      rw [List.zip_cons_cons] at hp ⊢
      rcases List.mem_cons.1 hp with rfl | hp
      · exact List.mem_cons_self ..
      · exact List.mem_cons_of_mem _ (h3 p hp)
  | swap x y l =>
    intro ws hw
    match ws with
    | [] => simp at hw
    | [_] => simp at hw
    | a :: b :: ws =>
      refine ⟨b :: a :: ws, by simpa using hw, by simp; omega, fun p hp => ?_⟩
      simp only [List.zip_cons_cons, List.mem_cons] at hp ⊢
      rcases hp with h | h | h
      · exact .inr (.inl h)
      · exact .inl h
      · exact .inr (.inr h)
  | trans _ _ ih1 ih2 =>
    intro ws hw
    obtain ⟨w1, h1, h2, h3⟩ := ih1 ws hw
    obtain ⟨w2, h4, h5, h6⟩ := ih2 w1 h1
    exact ⟨w2, h4, by rw [h5, h2], fun p hp => h3 p (h6 p hp)⟩
theorem used_perm {b : List Scale} {ls ls' : List Load} (h : ls.Perm ls') : used b ls = used b ls' := by
  unfold used
  refine List.filter_congr fun s _ => ?_
  unfold usedB
  rw [Bool.eq_iff_iff, List.any_eq_true, List.any_eq_true]
  exact ⟨fun ⟨l, h1, h2⟩ => ⟨l, h.mem_iff.1 h1, h2⟩, fun ⟨l, h1, h2⟩ => ⟨l, h.mem_iff.2 h1, h2⟩⟩
theorem truth_perm {b : List Scale} {ls ls' : List Load} (h : ls.Perm ls') {T : Int → Int × Int} {ws : List Int} (ht : TruthOf b ls T ws) : ∃ ws', TruthOf b ls' T ws' ∧ ws'.sum = ws.sum := by
  obtain ⟨h1, h2, h3⟩ := ht
  obtain ⟨ws', h4, h5, h6⟩ := perm_zip h ws h2
  refine ⟨ws', ⟨by rw [← used_perm h]; exact h1, h4, fun s hs i l w hl hw he => ?_⟩, h5⟩
  have hz : (ls'.zip ws')[i]? = some (l, w) := List.getElem?_zip_eq_some.2 ⟨hl, hw⟩
  have hm := h6 _ (List.mem_of_getElem? hz)
  obtain ⟨j, hj⟩ := List.mem_iff_getElem?.1 hm
  obtain ⟨h7, h8⟩ := List.getElem?_zip_eq_some.1 hj
  exact h3 s hs j l w h7 h8 he

/-- Scales, and loads, under other numbers. -/
def mvS (m : Int) (s : Scale) : Scale := { s with id := s.id + m }
def mvL (m : Int) (l : Load) : Load := { l with scale := l.scale + m }
theorem used_moved (m : Int) (b : List Scale) (ls : List Load) : used (b.map (mvS m)) (ls.map (mvL m)) = (used b ls).map (mvS m) := by
  unfold used
  rw [List.filter_map]
  congr 1
  refine List.filter_congr fun s _ => ?_
  simp only [Function.comp, usedB, List.any_map, mvS]
  induction ls with
  | nil => rfl
  | cons l ls ih =>
    rw [List.any_cons, List.any_cons, ih]
    congr 1
    rw [Bool.eq_iff_iff]
    simp [mvL]
theorem truth_moved {m : Int} {b : List Scale} {ls : List Load} {T : Int → Int × Int} {ws : List Int} (h : TruthOf b ls T ws) : TruthOf (b.map (mvS m)) (ls.map (mvL m)) (fun n => T (n - m)) ws := by
  obtain ⟨h1, h2, h3⟩ := h
  refine ⟨fun s hs => ?_, by simpa using h2, fun s hs i l w hl hw he => ?_⟩
  · rw [used_moved] at hs
    obtain ⟨t, ht, rfl⟩ := List.mem_map.1 hs
    have := h1 t ht
    simpa [mvS, trueB] using this
  · obtain ⟨t, ht, rfl⟩ := List.mem_map.1 hs
    rw [List.getElem?_map] at hl
    cases hq : ls[i]? with
    | none => rw [hq] at hl; cases hl
    | some q =>
      rw [hq] at hl
      cases hl
      have := h3 t ht i q w hq hw (by simpa [mvS, mvL] using he)
      simpa [mvS, mvL] using this
theorem moved_back (m : Int) (b : List Scale) : (b.map (mvS m)).map (mvS (-m)) = b := by
  rw [List.map_map]
  conv => rhs; rw [← List.map_id b]
  refine List.map_congr_left fun s _ => ?_
  cases s
  simp [mvS] <;> omega
theorem movedL_back (m : Int) (b : List Load) : (b.map (mvL m)).map (mvL (-m)) = b := by
  rw [List.map_map]
  conv => rhs; rw [← List.map_id b]
  refine List.map_congr_left fun s _ => ?_
  cases s
  simp [mvL] <;> omega

/-- Gear turned, and its loads under other numbers. -/
def turnG (k : Nat) (m : Int) (g : Gear) : Gear := { g with loads := (turnL k g.loads).map (mvL m), runners := turnL k g.runners, strokes := turnL k g.strokes }
theorem turn_has {b : List Scale} {g : Gear} {k : Nat} {m : Int} (h : check b g = 0) (h' : check (b.map (mvS m)) (turnG k m g) = 0) (x : Int) : has (totals b g) x ↔ has (totals (b.map (mvS m)) (turnG k m g)) x := by
  rw [totals_truth h, totals_truth h']
  constructor
  · rintro ⟨T, ws, h1, h2⟩
    obtain ⟨ws', h3, h4⟩ := truth_perm (turnL_perm k g.loads) h1
    exact ⟨_, ws', truth_moved h3, by rw [h4]; exact h2⟩
  · rintro ⟨T, ws, h1, h2⟩
    have h3 := truth_moved (m := -m) h1
    rw [moved_back] at h3
    rw [show (turnG k m g).loads.map (mvL (-m)) = turnL k g.loads from movedL_back m _] at h3
    obtain ⟨ws', h4, h5⟩ := truth_perm (turnL_perm k g.loads).symm h3
    exact ⟨_, ws', h4, by rw [h5]; exact h2⟩
theorem turn_totals {b : List Scale} {g : Gear} {k : Nat} {m : Int} (h : check b g = 0) (h' : check (b.map (mvS m)) (turnG k m g) = 0) : totals (b.map (mvS m)) (turnG k m g) = totals b g :=
  neat_ext (totals_neat _ _) (totals_neat _ _) fun x => (turn_has h h' x).symm
theorem turn_hardOf (k : Nat) (m : Int) (g : Gear) : hardOf (turnG k m g) = hardOf g := by
  unfold hardOf
  refine ((turnL_perm k g.strokes).foldl_eq' (fun x _ y _ z => ?_) _).symm
  simp only [hardStep, turnG]
  congr 1 <;> omega
theorem turn_warmOf (k : Nat) (m : Int) (g : Gear) (c : Int) : warmOf (turnG k m g) c = warmOf g c := by
  unfold warmOf
  refine (((turnL_perm k g.runners).map (warmAt g)).foldl_eq' (fun x _ y _ z => ?_) _).symm
  simp only [warmStep]
  omega
theorem turn_hard {b : List Scale} {g : Gear} {k : Nat} {m : Int} (h : check b g = 0) (h' : check (b.map (mvS m)) (turnG k m g) = 0) : hard (turnG k m g) = hard g := by
  unfold hard
  rw [turn_hardOf, if_pos (gearOk_bare (check_zero h).2), if_pos (gearOk_bare (check_zero h').2)]
theorem turn_judge {b : List Scale} {g : Gear} {k : Nat} {m : Int} (h : check b g = 0) (h' : check (b.map (mvS m)) (turnG k m g) = 0) (n : Norm) : judgeR (b.map (mvS m)) (turnG k m g) n = judgeR b g n := by
  have e : partsJ (b.map (mvS m)) (turnG k m g) n = partsJ b g n := by
    unfold partsJ
    rw [turn_totals h h', turn_hard h h', turn_warmOf]
    rfl
  unfold judgeR
  rw [e, h, h', turn_totals h h', turn_hard h h']
theorem turn_totalsR {b : List Scale} {g : Gear} {k : Nat} {m : Int} (h : check b g = 0) (h' : check (b.map (mvS m)) (turnG k m g) = 0) : Go.Proofs.YtfjkiemjmnnbkaaGreatDoor.totalsR (b.map (mvS m)) (turnG k m g) = Go.Proofs.YtfjkiemjmnnbkaaGreatDoor.totalsR b g := by
  unfold Go.Proofs.YtfjkiemjmnnbkaaGreatDoor.totalsR
  rw [h, h', turn_totals h h']
end Kr
