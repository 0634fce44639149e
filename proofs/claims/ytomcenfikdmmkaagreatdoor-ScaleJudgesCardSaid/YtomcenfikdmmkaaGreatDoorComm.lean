/-
  Plain laws: common numbers, step by step; whose error is told.
-/
import Derived.Test.YtomcenfikdmmkaaGreatDoorPl
namespace Kr

/-- The numbers that a span and others have. -/
def commonOne (s : Span) (b : List Span) : List Span := b.flatMap fun t => if max s.lo t.lo ≤ min s.hi t.hi then [⟨max s.lo t.lo, min s.hi t.hi⟩] else []
theorem commonL_snoc (a b : List Span) (s : Span) : commonL (a ++ [s]) b = commonL a b ++ commonOne s b := by
  unfold commonL
  rw [List.flatMap_append, List.flatMap_cons, List.flatMap_nil, List.append_nil]
  rfl
theorem commonOne_snoc (s : Span) (b : List Span) (t : Span) : commonOne s (b ++ [t]) = commonOne s b ++ (if max s.lo t.lo ≤ min s.hi t.hi then [⟨max s.lo t.lo, min s.hi t.hi⟩] else []) := by
  unfold commonOne
  rw [List.flatMap_append, List.flatMap_cons, List.flatMap_nil, List.append_nil]
theorem commonOne_len (s : Span) (b : List Span) : (commonOne s b).length ≤ b.length := by
  unfold commonOne
  induction b with
  | nil => simp
  | cons t b ih =>
    rw [List.flatMap_cons, List.length_append, List.length_cons]
    split <;> simp only [List.length_cons, List.length_nil] <;> omega
theorem common_take_len (a b : List Span) (k m : Nat) (s : Span) (hk : k < a.length) (hm : m ≤ b.length) : (commonL (a.take k) b ++ commonOne s (b.take m)).length ≤ a.length * b.length := by
  rw [List.length_append]
  have h1 := common_len (a.take k) b
  have h2 := commonOne_len s (b.take m)
  rw [List.length_take, Nat.min_eq_left (by omega)] at h1 h2
  have h3 : (k + 1) * b.length ≤ a.length * b.length := Nat.mul_le_mul_right _ hk
  rw [Nat.succ_mul] at h3
  omega
theorem again_ask (b : List Scale) (g later : Gear) : (if bayOk b then (if gearOk b g && gearOk b later then (0 : Int) else 41) else 40) = if check b g ≠ 0 then check b g else check b later := by
  unfold check
  cases bayOk b <;> cases gearOk b g <;> cases gearOk b later <;> simp
theorem neat_take {l : List Span} (h : Neat l) (k : Nat) : Neat (l.take k) := ⟨fun s hs => h.1 s (List.mem_of_mem_take hs), h.2.sublist (List.take_sublist k l)⟩
theorem mem_commonOne {s x : Span} {b : List Span} (h : x ∈ commonOne s b) : ∃ t ∈ b, x = ⟨max s.lo t.lo, min s.hi t.hi⟩ := by
  unfold commonOne at h
  obtain ⟨t, ht, h⟩ := List.mem_flatMap.1 h
  split at h
  · exact ⟨t, ht, List.mem_singleton.1 h⟩
  · simp at h
/-- What neat spans have in common is neat. -/
theorem common_neat {a b : List Span} (ha : Neat a) (hb : Neat b) : Neat (commonL a b) := by
  refine ⟨common_full a b, ?_⟩
  unfold commonL
  rw [List.pairwise_flatMap]
  refine ⟨fun s _ => ?_, ha.2.imp fun {s s'} h x hx y hy => ?_⟩
  · rw [List.pairwise_flatMap]
    refine ⟨fun t _ => ?_, hb.2.imp fun {t t'} h x hx y hy => ?_⟩
    · split
      · exact List.pairwise_singleton _ _
      · exact List.Pairwise.nil
    · split at hx
      · split at hy
        · rw [List.mem_singleton.1 hx, List.mem_singleton.1 hy]
          dsimp only
          omega
        · simp at hy
      · simp at hx
  · obtain ⟨t, _, rfl⟩ := mem_commonOne (s := s) hx
    obtain ⟨t', _, rfl⟩ := mem_commonOne (s := s') hy
    dsimp only
    omega
theorem common_few {a b : List Span} (ha : Neat a) (hb : Neat b) (wa : Within 0 40000000000 a) : (commonL a b).length ≤ 1000000000000 := by
  have := neat_len (common_neat ha hb) (common_within wa) (by omega)
  omega
theorem common_take_few {a b : List Span} {k : Nat} {s : Span} (ha : Neat a) (hb : Neat b) (wa : Within 0 40000000000 a) (hs : a[k]? = some s) (m : Nat) : (commonL (a.take k) b ++ commonOne s (b.take m)).length ≤ 1000000000000 := by
  have h1 : commonL (a.take (k + 1)) b = commonL (a.take k) b ++ commonOne s b := by
    obtain ⟨hk, rfl⟩ := List.getElem?_eq_some_iff.1 hs
    rw [List.take_succ_eq_append_getElem hk, commonL_snoc]
  have h2 := common_few (neat_take ha (k + 1)) hb (fun x hx => wa x (List.mem_of_mem_take hx))
  rw [h1, List.length_append] at h2
  rw [List.length_append]
  have h3 : (commonOne s (b.take m)).length ≤ (commonOne s b).length := by
    conv => rhs; rw [← List.take_append_drop m b]
    unfold commonOne
    rw [List.flatMap_append, List.length_append]
    omega
  omega
end Kr
