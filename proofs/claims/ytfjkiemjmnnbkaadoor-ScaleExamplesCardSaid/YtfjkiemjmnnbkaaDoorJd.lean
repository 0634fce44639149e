/-
  Several texts in one: see the heads of its parts.
-/
import Derived.Test.YtfjkiemjmnnbkaaDoorJb
import Derived.Test.YtfjkiemjmnnbkaaDoorPl
import Derived.Test.YtfjkiemjmnnbkaaDoorTf

/-
  Walks of the reference: what is judged.
-/
namespace Go.Proofs.YtfjkiemjmnnbkaaDoor
open Go.RowKit Kr
set_option linter.unusedSimpArgs false

/-- What the region of the five parts leaves. -/
def PartsAt5 (a b c d : Int) (h : Span) (i : Nat) (W : World) (v : Value) : Prop :=
  (i = 3 → v = .int .u8 a) ∧ (i = 9 → v = .int .u8 b) ∧ (i = 12 → ∃ q k, v = .slice q 1 k ∧ IsRow (fun t : Kr.Span => [.int .i64 t.lo, .int .i64 t.hi]) 2 W v [h]) ∧ (i = 15 → v = .int .u8 c) ∧ (i = 23 → v = .int .u8 d)
theorem PartsAt5.mono {a b c d : Int} {h : Span} {i : Nat} {W W' : World} {v : Value} (p : PartsAt5 a b c d h i W v) (hE : W.Exts W') : PartsAt5 a b c d h i W' v :=
  ⟨p.1, p.2.1, fun e => by obtain ⟨q, k, h1, h2⟩ := p.2.2.1 e; exact ⟨q, k, h1, h2.mono hE⟩, p.2.2.2.1, p.2.2.2.2⟩
theorem row_sub {α : Type} {enc : α → List Value} {k : Nat} {w : World} {b o j : Nat} {x : α} (hlay : Lays w b) (hcs : ∀ m u, (enc x)[m]? = some u → w.cell? ⟨b, o + j * k + m, none⟩ = some u) (c : Nat) (hc : 1 ≤ c ∧ c ≤ 9223372036854775807) :
    IsRow enc k w (.slice (some ⟨b, o + j * k, none⟩) 1 c) [x] :=
  ⟨_, b, o + j * k, c, rfl, hc, fun _ => ⟨rfl, hlay⟩, fun i y hy m u hu => by
    match i, hy with
    | 0, hy =>
      simp at hy; subst hy
      rw [Nat.zero_mul, Nat.add_zero]
      exact hcs m u hu⟩
theorem row_five (w : World) (a b c d e : Int) (n : Nat) (hn : n = w.heap.size) : IsRow (fun x : Int => [.int .u8 x]) 1 (w.alloc (.cells #[.int .u8 a, .int .u8 b, .int .u8 c, .int .u8 d, .int .u8 e] 5)) (.slice (some ⟨n, 0, none⟩) 5 5) [a, b, c, d, e] := by
  have h : BlkAt (w.alloc (.cells ([.int .u8 a, .int .u8 b, .int .u8 c, .int .u8 d, .int .u8 e] : List Value).toArray 5)) n (([a, b, c, d, e] : List Int).flatMap fun x => [.int .u8 x]) := BlkAt.new w _ _ hn
  exact IsRow.of_blk (enc := fun x : Int => [.int .u8 x]) (k := 1) (xs := [a, b, c, d, e]) (fun _ => rfl) h ⟨by subst hn; simp⟩ (by simp)

end Go.Proofs.YtfjkiemjmnnbkaaDoor

/-
  Plain laws: common numbers, step by step; whose error is told.
-/
namespace Kr

/-- The numbers that a span and others have. -/
def commonOne (s : Span) (b : List Span) : List Span := b.flatMap fun t => if max s.lo t.lo ≤ min s.hi t.hi then [⟨max s.lo t.lo, min s.hi t.hi⟩] else []
theorem commonL_snoc (a b : List Span) (s : Span) : commonL (a ++ [s]) b = commonL a b ++ commonOne s b := by
  unfold commonL
  rw [List.flatMap_append, List.flatMap_cons, List.flatMap_nil, List.append_nil]
  rfl
theorem commonOne_snoc (s : Span) (b : List Span) (t : Span) : commonOne s (b ++ [t]) = commonOne s b ++ (if max s.lo t.lo ≤ min s.hi t.hi then [⟨max s.lo t.lo, min s.hi t.hi⟩] else []) := by
  unfold commonOne
  rw [List.flatMap_append, List.flatMap_cons, List.flatMap_nil, List.append_nil]
theorem commonOne_len (s : Span) (b : List Span) : (commonOne s b).length ≤ b.length := by
  unfold commonOne
  induction b with
  | nil => simp
  | cons t b ih =>
    rw [List.flatMap_cons, List.length_append, List.length_cons]
    split <;> simp only [List.length_cons, List.length_nil] <;> omega
theorem common_take_len (a b : List Span) (k m : Nat) (s : Span) (hk : k < a.length) (hm : m ≤ b.length) : (commonL (a.take k) b ++ commonOne s (b.take m)).length ≤ a.length * b.length := by
  rw [List.length_append]
  have h1 := common_len (a.take k) b
  have h2 := commonOne_len s (b.take m)
  rw [List.length_take, Nat.min_eq_left (by omega)] at h1 h2
  have h3 : (k + 1) * b.length ≤ a.length * b.length := Nat.mul_le_mul_right _ hk
  rw [Nat.succ_mul] at h3
  omega
theorem again_ask (b : List Scale) (g later : Gear) : (if bayOk b then (if gearOk b g && gearOk b later then (0 : Int) else 41) else 40) = if check b g ≠ 0 then check b g else check b later := by
  unfold check
  cases bayOk b <;> cases gearOk b g <;> cases gearOk b later <;> simp
theorem neat_take {l : List Span} (h : Neat l) (k : Nat) : Neat (l.take k) := ⟨fun s hs => h.1 s (List.mem_of_mem_take hs), h.2.sublist (List.take_sublist k l)⟩
theorem mem_commonOne {s x : Span} {b : List Span} (h : x ∈ commonOne s b) : ∃ t ∈ b, x = ⟨max s.lo t.lo, min s.hi t.hi⟩ := by
  unfold commonOne at h
  obtain ⟨t, ht, h⟩ := List.mem_flatMap.1 h
  split at h
  · exact ⟨t, ht, List.mem_singleton.1 h⟩
  · simp at h
/-- What neat spans have in common is neat. -/
theorem common_neat {a b : List Span} (ha : Neat a) (hb : Neat b) : Neat (commonL a b) := by
  refine ⟨common_full a b, ?_⟩
  unfold commonL
  rw [List.pairwise_flatMap]
  refine ⟨fun s _ => ?_, ha.2.imp fun {s s'} h x hx y hy => ?_⟩
  · rw [List.pairwise_flatMap]
    refine ⟨fun t _ => ?_, hb.2.imp fun {t t'} h x hx y hy => ?_⟩
    · split
      · exact List.pairwise_singleton _ _
      · exact List.Pairwise.nil
    · split at hx
      · split at hy
        · rw [List.mem_singleton.1 hx, List.mem_singleton.1 hy]
          dsimp only
          omega
        · simp at hy
      · simp at hx
  · obtain ⟨t, _, rfl⟩ := mem_commonOne (s := s) hx
    obtain ⟨t', _, rfl⟩ := mem_commonOne (s := s') hy
    dsimp only
    omega
theorem common_few {a b : List Span} (ha : Neat a) (hb : Neat b) (wa : Within 0 40000000000 a) : (commonL a b).length ≤ 1000000000000 := by
  have := neat_len (common_neat ha hb) (common_within wa) (by omega)
  omega
theorem common_take_few {a b : List Span} {k : Nat} {s : Span} (ha : Neat a) (hb : Neat b) (wa : Within 0 40000000000 a) (hs : a[k]? = some s) (m : Nat) : (commonL (a.take k) b ++ commonOne s (b.take m)).length ≤ 1000000000000 := by
  have h1 : commonL (a.take (k + 1)) b = commonL (a.take k) b ++ commonOne s b := by
    obtain ⟨hk, rfl⟩ := List.getElem?_eq_some_iff.1 hs
    rw [List.take_succ_eq_append_getElem hk, commonL_snoc]
  have h2 := common_few (neat_take ha (k + 1)) hb (fun x hx => wa x (List.mem_of_mem_take hx))
  rw [h1, List.length_append] at h2
  rw [List.length_append]
  have h3 : (commonOne s (b.take m)).length ≤ (commonOne s b).length := by
    conv => rhs; rw [← List.take_append_drop m b]
    unfold commonOne
    rw [List.flatMap_append, List.length_append]
    omega
  omega
end Kr

/-
  Walks: what two totals have in common, and what is known of it.
-/
namespace Go.Proofs.YtfjkiemjmnnbkaaDoor
open Go.RowKit Kr
set_option linter.unusedSimpArgs false

theorem row_gear2 (w : World) (x y : GearV) (n : Nat) (hn : n = w.heap.size) : IsRow gearC 8 (w.alloc (.cells (gearC x ++ gearC y).toArray 43)) (.slice (some ⟨n, 0, none⟩) 2 2) [x, y] := by
  have h : BlkAt (w.alloc (.cells (gearC x ++ gearC y).toArray 43)) n (([x, y] : List GearV).flatMap gearC) := by
    have h := BlkAt.new w (gearC x ++ gearC y) 43 hn
    simpa using h
  exact IsRow.of_blk (enc := gearC) (k := 8) (xs := [x, y]) (fun _ => rfl) h ⟨by subst hn; simp⟩ (by simp)

end Go.Proofs.YtfjkiemjmnnbkaaDoor

/-
  Walks: what is known of a total that was weighed twice.
-/
namespace Go.Proofs.YtfjkiemjmnnbkaaDoor
open Go.RowKit Kr
set_option linter.unusedSimpArgs false

/-- What the region of the reference's totals leaves. -/
def AgainAt (A B : List Span) (c : Nat) (W : World) (v : Value) : Prop := (c = 2 → IsRow (fun t : Kr.Span => [.int .i64 t.lo, .int .i64 t.hi]) 2 W v A) ∧ (c = 5 → IsRow (fun t : Kr.Span => [.int .i64 t.lo, .int .i64 t.hi]) 2 W v B) ∧ (c = 6 → IsRow (fun t : Kr.Span => [.int .i64 t.lo, .int .i64 t.hi]) 2 W v (merged (commonL A B)))
theorem AgainAt.mono {A B : List Span} {c : Nat} {W W' : World} {v : Value} (h : AgainAt A B c W v) (hE : W.Exts W') : AgainAt A B c W' v := ⟨fun e => (h.1 e).mono hE, fun e => (h.2.1 e).mono hE, fun e => (h.2.2 e).mono hE⟩
/-- What holds of gear that is asked. -/
structure GearAsk (ts : List (Kr.Scale × Value)) (g : Gear) : Prop where
  h6 : g.loads.length ≤ 6
  sh : ∀ x ∈ ts, ∀ l ∈ g.loads, l.scale = x.1.id → -2000000 ≤ l.shown ∧ l.shown ≤ 2000000
  ad : 0 ≤ g.added ∧ g.added ≤ 1000000
  neat : Neat (totals (ts.map Prod.fst) g)
  win : Within 0 40000000000 (totals (ts.map Prod.fst) g)
  few : (totals (ts.map Prod.fst) g).length ≤ 100000000
theorem gearAsk {ts : List (Kr.Scale × Value)} {g : Gear} (h : check (ts.map Prod.fst) g = 0) : GearAsk ts g ∧ ts.length ≤ 4 ∧ ∀ x ∈ ts, right x.1 = true := by
  obtain ⟨hz1, hz2⟩ := check_zero h
  have hok := check_ok hz1 hz2
  have hn : ts.length ≤ 4 := by have := hok.few; rwa [List.length_map] at this
  have h6 := hok.l6
  have had := hok.ad
  have htk : Neat (totals (ts.map Prod.fst) g) ∧ Within g.added (g.added + 1000000 * g.loads.length * (used (ts.map Prod.fst) g.loads).length) (totals (ts.map Prod.fst) g) := by
    refine totalsL_ok g.loads _ [⟨g.added, g.added⟩] g.added g.added ⟨fun s hs => by rw [List.mem_singleton.1 hs]; exact Int.le_refl _, List.pairwise_singleton _ _⟩ (fun s hs => by rw [List.mem_singleton.1 hs]; simp)
  have hul : (used (ts.map Prod.fst) g.loads).length ≤ 4 := by
    have := List.length_filter_le (usedB g.loads) (ts.map Prod.fst)
    rw [List.length_map] at this
    unfold used
    omega
  have hprod : (1000000 * (g.loads.length : Int) * ((used (ts.map Prod.fst) g.loads).length : Int)) ≤ 24000000 := by
    have h1 : g.loads.length * (used (ts.map Prod.fst) g.loads).length ≤ 6 * 4 := Nat.mul_le_mul h6 hul
    have h2 : ((g.loads.length * (used (ts.map Prod.fst) g.loads).length : Nat) : Int) ≤ 24 := by omega
    rw [Int.natCast_mul] at h2
    rw [Int.mul_assoc]
    omega
  have hw : Within 0 25000000 (totals (ts.map Prod.fst) g) := fun s hs => by
    have := htk.2 s hs
    omega
  have hl := neat_len htk.1 hw (by omega)
  exact ⟨⟨h6, fun x hx => hok.sh _ (List.mem_map.2 ⟨x, hx, rfl⟩), had, htk.1, within_le hw (by omega), by omega⟩, hn, fun x hx => hok.rt _ (List.mem_map.2 ⟨x, hx, rfl⟩)⟩
theorem again_first {b : List Scale} {g l : Gear} {n : Norm} (h : check b g ≠ 0) : againR b g l n = (0, check b g) := by unfold againR; rw [if_pos h]
theorem again_later {b : List Scale} {g l : Gear} {n : Norm} (h0 : check b g = 0) (h : check b l ≠ 0) : againR b g l n = (0, check b l) := by unfold againR; rw [if_neg (by simp [h0]), if_pos h]
theorem again_norm {b : List Scale} {g l : Gear} {n : Norm} (h0 : check b g = 0) (h1 : check b l = 0) (h : normB n = false) : againR b g l n = (0, 42) := by unfold againR; rw [if_neg (by simp [h0]), if_neg (by simp [h1]), if_pos h]
theorem again_none {b : List Scale} {g l : Gear} {n : Norm} (h0 : check b g = 0) (h1 : check b l = 0) (h2 : normB n = true) (h : commonL (totals b g) (totals b l) = []) : againR b g l n = (0, 6) := by unfold againR; rw [if_neg (by simp [h0]), if_neg (by simp [h1]), if_neg (by simp [h2]), if_pos h]
theorem again_all {b : List Scale} {g l : Gear} {n : Norm} (h0 : check b g = 0) (h1 : check b l = 0) (h2 : normB n = true) (h : commonL (totals b g) (totals b l) ≠ []) : againR b g l n = (knownR (commonL (totals b g) (totals b l)) n.total, 0) := by unfold againR; rw [if_neg (by simp [h0]), if_neg (by simp [h1]), if_neg (by simp [h2]), if_neg h]
theorem norm_total {n : Norm} (h : normB n = true) : n.total.lo ≤ n.total.hi := by
  unfold normB ordered at h
  simp at h
  omega

end Go.Proofs.YtfjkiemjmnnbkaaDoor
