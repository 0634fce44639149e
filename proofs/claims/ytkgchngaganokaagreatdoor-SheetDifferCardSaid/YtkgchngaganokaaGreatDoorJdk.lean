/-
  Several texts in one: see the heads of its parts.
-/
import Derived.Test.YtkgchngaganokaaGreatDoorJb
import Derived.Test.YtkgchngaganokaaGreatDoorPl
import Derived.Test.YtkgchngaganokaaGreatDoorTf
import Derived.Test.YtkgchngaganokaaGreatDoorSa
import Derived.Test.YtkgchngaganokaaGreatDoorBt
import Derived.Test.YtkgchngaganokaaGreatDoorRx
import Derived.Test.YtkgchngaganokaaGreatDoorTq
import Derived.Maps.OwnSet

/-
  Walks of the reference: what is judged.
-/
namespace Go.Proofs.YtkgchngaganokaaGreatDoor
open Go.RowKit Kr
set_option linter.unusedSimpArgs false

/-- What the region of the five parts leaves. -/
def PartsAt5 (a b c d : Int) (h : Span) (i : Nat) (W : World) (v : Value) : Prop :=
  (i = 3 → v = .int .u8 a) ∧ (i = 9 → v = .int .u8 b) ∧ (i = 12 → ∃ q k, v = .slice q 1 k ∧ IsRow (fun t : Kr.Span => [.int .i64 t.lo, .int .i64 t.hi]) 2 W v [h]) ∧ (i = 15 → v = .int .u8 c) ∧ (i = 23 → v = .int .u8 d)
theorem PartsAt5.mono {a b c d : Int} {h : Span} {i : Nat} {W W' : World} {v : Value} (p : PartsAt5 a b c d h i W v) (hE : W.Exts W') : PartsAt5 a b c d h i W' v :=
  ⟨p.1, p.2.1, fun e => by obtain ⟨q, k, h1, h2⟩ := p.2.2.1 e; exact ⟨q, k, h1, h2.mono hE⟩, p.2.2.2.1, p.2.2.2.2⟩
theorem row_sub {α : Type} {enc : α → List Value} {k : Nat} {w : World} {b o j : Nat} {x : α} (hlay : Lays w b) (hcs : ∀ m u, (enc x)[m]? = some u → w.cell? ⟨b, o + j * k + m, none⟩ = some u) (c : Nat) (hc : 1 ≤ c ∧ c ≤ 9223372036854775807) :
    IsRow enc k w (.slice (some ⟨b, o + j * k, none⟩) 1 c) [x] :=
  ⟨_, b, o + j * k, c, rfl, hc, fun _ => ⟨rfl, hlay⟩, fun i y hy m u hu => by
    match i, hy with
    | 0, hy =>
      simp at hy; subst hy
      rw [Nat.zero_mul, Nat.add_zero]
      exact hcs m u hu⟩
theorem row_five (w : World) (a b c d e : Int) (n : Nat) (hn : n = w.heap.size) : IsRow (fun x : Int => [.int .u8 x]) 1 (w.alloc (.cells #[.int .u8 a, .int .u8 b, .int .u8 c, .int .u8 d, .int .u8 e] 5)) (.slice (some ⟨n, 0, none⟩) 5 5) [a, b, c, d, e] := by
  have h : BlkAt (w.alloc (.cells ([.int .u8 a, .int .u8 b, .int .u8 c, .int .u8 d, .int .u8 e] : List Value).toArray 5)) n (([a, b, c, d, e] : List Int).flatMap fun x => [.int .u8 x]) := BlkAt.new w _ _ hn
  exact IsRow.of_blk (enc := fun x : Int => [.int .u8 x]) (k := 1) (xs := [a, b, c, d, e]) (fun _ => rfl) h ⟨by subst hn; simp⟩ (by simp)

end Go.Proofs.YtkgchngaganokaaGreatDoor

/-
  Plain laws: common numbers, step by step; whose error is told.
-/
namespace Kr

/-- The numbers that a span and others have. -/
def commonOne (s : Span) (b : List Span) : List Span := b.flatMap fun t => if max s.lo t.lo ≤ min s.hi t.hi then [⟨max s.lo t.lo, min s.hi t.hi⟩] else []
theorem commonL_snoc (a b : List Span) (s : Span) : commonL (a ++ [s]) b = commonL a b ++ commonOne s b := by
  unfold commonL
  rw [List.flatMap_append, List.flatMap_cons, List.flatMap_nil, List.append_nil]
  rfl
theorem commonOne_snoc (s : Span) (b : List Span) (t : Span) : commonOne s (b ++ [t]) = commonOne s b ++ (if max s.lo t.lo ≤ min s.hi t.hi then [⟨max s.lo t.lo, min s.hi t.hi⟩] else []) := by
  unfold commonOne
  rw [List.flatMap_append, List.flatMap_cons, List.flatMap_nil, List.append_nil]
theorem commonOne_len (s : Span) (b : List Span) : (commonOne s b).length ≤ b.length := by
  unfold commonOne
  induction b with
  | nil => simp
  | cons t b ih =>
    rw [List.flatMap_cons, List.length_append, List.length_cons]
    split <;> simp only [List.length_cons, List.length_nil] <;> omega
theorem common_take_len (a b : List Span) (k m : Nat) (s : Span) (hk : k < a.length) (hm : m ≤ b.length) : (commonL (a.take k) b ++ commonOne s (b.take m)).length ≤ a.length * b.length := by
  rw [List.length_append]
  have h1 := common_len (a.take k) b
  have h2 := commonOne_len s (b.take m)
  rw [List.length_take, Nat.min_eq_left (by omega)] at h1 h2
  have h3 : (k + 1) * b.length ≤ a.length * b.length := Nat.mul_le_mul_right _ hk
  rw [Nat.succ_mul] at h3
  omega
theorem again_ask (b : List Scale) (g later : Gear) : (if bayOk b then (if gearOk b g && gearOk b later then (0 : Int) else 41) else 40) = if check b g ≠ 0 then check b g else check b later := by
  unfold check
  cases bayOk b <;> cases gearOk b g <;> cases gearOk b later <;> simp
theorem neat_take {l : List Span} (h : Neat l) (k : Nat) : Neat (l.take k) := ⟨fun s hs => h.1 s (List.mem_of_mem_take hs), h.2.sublist (List.take_sublist k l)⟩
theorem mem_commonOne {s x : Span} {b : List Span} (h : x ∈ commonOne s b) : ∃ t ∈ b, x = ⟨max s.lo t.lo, min s.hi t.hi⟩ := by
  unfold commonOne at h
  obtain ⟨t, ht, h⟩ := List.mem_flatMap.1 h
  split at h
  · exact ⟨t, ht, List.mem_singleton.1 h⟩
  · simp at h
/-- What neat spans have in common is neat. -/
theorem common_neat {a b : List Span} (ha : Neat a) (hb : Neat b) : Neat (commonL a b) := by
  refine ⟨common_full a b, ?_⟩
  unfold commonL
  rw [List.pairwise_flatMap]
  refine ⟨fun s _ => ?_, ha.2.imp fun {s s'} h x hx y hy => ?_⟩
  · rw [List.pairwise_flatMap]
    refine ⟨fun t _ => ?_, hb.2.imp fun {t t'} h x hx y hy => ?_⟩
    · split
      · exact List.pairwise_singleton _ _
      · exact List.Pairwise.nil
    · split at hx
      · split at hy
        · rw [List.mem_singleton.1 hx, List.mem_singleton.1 hy]
          dsimp only
          omega
        · simp at hy
      · simp at hx
  · obtain ⟨t, _, rfl⟩ := mem_commonOne (s := s) hx
    obtain ⟨t', _, rfl⟩ := mem_commonOne (s := s') hy
    dsimp only
    omega
theorem common_few {a b : List Span} (ha : Neat a) (hb : Neat b) (wa : Within 0 40000000000 a) : (commonL a b).length ≤ 1000000000000 := by
  have := neat_len (common_neat ha hb) (common_within wa) (by omega)
  omega
theorem common_take_few {a b : List Span} {k : Nat} {s : Span} (ha : Neat a) (hb : Neat b) (wa : Within 0 40000000000 a) (hs : a[k]? = some s) (m : Nat) : (commonL (a.take k) b ++ commonOne s (b.take m)).length ≤ 1000000000000 := by
  have h1 : commonL (a.take (k + 1)) b = commonL (a.take k) b ++ commonOne s b := by
    obtain ⟨hk, rfl⟩ := List.getElem?_eq_some_iff.1 hs
    rw [List.take_succ_eq_append_getElem hk, commonL_snoc]
  have h2 := common_few (neat_take ha (k + 1)) hb (fun x hx => wa x (List.mem_of_mem_take hx))
  rw [h1, List.length_append] at h2
  rw [List.length_append]
  have h3 : (commonOne s (b.take m)).length ≤ (commonOne s b).length := by
    conv => rhs; rw [← List.take_append_drop m b]
    unfold commonOne
    rw [List.flatMap_append, List.length_append]
    omega
  omega
end Kr

/-
  Walks: what two totals have in common, and what is known of it.
-/
namespace Go.Proofs.YtkgchngaganokaaGreatDoor
open Go.RowKit Kr
set_option linter.unusedSimpArgs false

end Go.Proofs.YtkgchngaganokaaGreatDoor

/-
  Walks: what is known of a total that was weighed twice.
-/
namespace Go.Proofs.YtkgchngaganokaaGreatDoor
open Go.RowKit Kr
set_option linter.unusedSimpArgs false

/-- What the region of the reference's totals leaves. -/
def AgainAt (A B : List Span) (c : Nat) (W : World) (v : Value) : Prop := (c = 2 → IsRow (fun t : Kr.Span => [.int .i64 t.lo, .int .i64 t.hi]) 2 W v A) ∧ (c = 5 → IsRow (fun t : Kr.Span => [.int .i64 t.lo, .int .i64 t.hi]) 2 W v B) ∧ (c = 6 → IsRow (fun t : Kr.Span => [.int .i64 t.lo, .int .i64 t.hi]) 2 W v (merged (commonL A B)))
theorem AgainAt.mono {A B : List Span} {c : Nat} {W W' : World} {v : Value} (h : AgainAt A B c W v) (hE : W.Exts W') : AgainAt A B c W' v := ⟨fun e => (h.1 e).mono hE, fun e => (h.2.1 e).mono hE, fun e => (h.2.2 e).mono hE⟩
/-- What holds of gear that is asked. -/
structure GearAsk (ts : List (Kr.Scale × Value)) (g : Gear) : Prop where
  h6 : g.loads.length ≤ 6
  sh : ∀ x ∈ ts, ∀ l ∈ g.loads, l.scale = x.1.id → -2000000 ≤ l.shown ∧ l.shown ≤ 2000000
  ad : 0 ≤ g.added ∧ g.added ≤ 1000000
  neat : Neat (totals (ts.map Prod.fst) g)
  win : Within 0 40000000000 (totals (ts.map Prod.fst) g)
  few : (totals (ts.map Prod.fst) g).length ≤ 100000000
theorem gearAsk {ts : List (Kr.Scale × Value)} {g : Gear} (h : check (ts.map Prod.fst) g = 0) : GearAsk ts g ∧ ts.length ≤ 4 ∧ ∀ x ∈ ts, right x.1 = true := by
  obtain ⟨hz1, hz2⟩ := check_zero h
  have hok := check_ok hz1 hz2
  have hn : ts.length ≤ 4 := by have := hok.few; rwa [List.length_map] at this
  have h6 := hok.l6
  have had := hok.ad
  have htk : Neat (totals (ts.map Prod.fst) g) ∧ Within g.added (g.added + 1000000 * g.loads.length * (used (ts.map Prod.fst) g.loads).length) (totals (ts.map Prod.fst) g) := by
    refine totalsL_ok g.loads _ [⟨g.added, g.added⟩] g.added g.added ⟨fun s hs => by rw [List.mem_singleton.1 hs]; exact Int.le_refl _, List.pairwise_singleton _ _⟩ (fun s hs => by rw [List.mem_singleton.1 hs]; simp)
  have hul : (used (ts.map Prod.fst) g.loads).length ≤ 4 := by
    have := List.length_filter_le (usedB g.loads) (ts.map Prod.fst)
    rw [List.length_map] at this
    unfold used
    omega
  have hprod : (1000000 * (g.loads.length : Int) * ((used (ts.map Prod.fst) g.loads).length : Int)) ≤ 24000000 := by
    have h1 : g.loads.length * (used (ts.map Prod.fst) g.loads).length ≤ 6 * 4 := Nat.mul_le_mul h6 hul
    have h2 : ((g.loads.length * (used (ts.map Prod.fst) g.loads).length : Nat) : Int) ≤ 24 := by omega
    rw [Int.natCast_mul] at h2
    rw [Int.mul_assoc]
    omega
  have hw : Within 0 25000000 (totals (ts.map Prod.fst) g) := fun s hs => by
    have := htk.2 s hs
    omega
  have hl := neat_len htk.1 hw (by omega)
  exact ⟨⟨h6, fun x hx => hok.sh _ (List.mem_map.2 ⟨x, hx, rfl⟩), had, htk.1, within_le hw (by omega), by omega⟩, hn, fun x hx => hok.rt _ (List.mem_map.2 ⟨x, hx, rfl⟩)⟩
theorem again_first {b : List Scale} {g l : Gear} {n : Norm} (h : check b g ≠ 0) : againR b g l n = (0, check b g) := by unfold againR; rw [if_pos h]
theorem again_later {b : List Scale} {g l : Gear} {n : Norm} (h0 : check b g = 0) (h : check b l ≠ 0) : againR b g l n = (0, check b l) := by unfold againR; rw [if_neg (by simp [h0]), if_pos h]
theorem again_norm {b : List Scale} {g l : Gear} {n : Norm} (h0 : check b g = 0) (h1 : check b l = 0) (h : normB n = false) : againR b g l n = (0, 42) := by unfold againR; rw [if_neg (by simp [h0]), if_neg (by simp [h1]), if_pos h]
theorem again_none {b : List Scale} {g l : Gear} {n : Norm} (h0 : check b g = 0) (h1 : check b l = 0) (h2 : normB n = true) (h : commonL (totals b g) (totals b l) = []) : againR b g l n = (0, 6) := by unfold againR; rw [if_neg (by simp [h0]), if_neg (by simp [h1]), if_neg (by simp [h2]), if_pos h]
theorem again_all {b : List Scale} {g l : Gear} {n : Norm} (h0 : check b g = 0) (h1 : check b l = 0) (h2 : normB n = true) (h : commonL (totals b g) (totals b l) ≠ []) : againR b g l n = (knownR (commonL (totals b g) (totals b l)) n.total, 0) := by unfold againR; rw [if_neg (by simp [h0]), if_neg (by simp [h1]), if_neg (by simp [h2]), if_neg h]
theorem norm_total {n : Norm} (h : normB n = true) : n.total.lo ≤ n.total.hi := by
  unfold normB ordered at h
  simp at h
  omega

end Go.Proofs.YtkgchngaganokaaGreatDoor

/-
  Walks: how lists of numbers compare, and the members of a set.
-/
namespace Go.Proofs.YtkgchngaganokaaGreatDoor
open Go.RowKit Kr
set_option linter.unusedSimpArgs false

theorem cmp_isNaN_any (x : Int) (w : World) : Calls Tryz.prog 107 #[.int .i64 x] w fun e w' => e = .returned (.bool false) ∧ w.Exts w' := by
  go_enter Tryz.func107, Tryz.ntmps107
  go_wp2_with fail
  go_ret
  exact ⟨by simp, exq⟩
theorem cmp_Compare_any (x y : Nat) (w : World) : Calls Tryz.prog 91 #[.int .i64 (x : Int), .int .i64 (y : Int)] w fun e w' => e = .returned (.int .i64 (if x = y then 0 else if x < y then -1 else 1)) ∧ w.Exts w' := by
  rcases Nat.lt_trichotomy x y with h | h | h
  · have hv : (if x = y then (0 : Int) else if x < y then -1 else 1) = -1 := by rw [if_neg (by omega), if_pos h]
    rw [hv]
    clear hv
    go_enter Tryz.func91, Tryz.ntmps91
    go_wp2_with (go_at_call 107; refine (cmp_isNaN_any _ _).mono ?_; rintro e w' ⟨rfl, X2, rfl⟩)
    go_ret
    exact ⟨rfl, exq⟩
  · subst h
    rw [if_pos rfl]
    go_enter Tryz.func91, Tryz.ntmps91
    go_wp2_with (go_at_call 107; refine (cmp_isNaN_any _ _).mono ?_; rintro e w' ⟨rfl, X2, rfl⟩)
    go_ret
    exact ⟨rfl, exq⟩
  · have hv : (if x = y then (0 : Int) else if x < y then -1 else 1) = 1 := by rw [if_neg (by omega), if_neg (by omega)]
    rw [hv]
    clear hv
    go_enter Tryz.func91, Tryz.ntmps91
    go_wp2_with (go_at_call 107; refine (cmp_isNaN_any _ _).mono ?_; rintro e w' ⟨rfl, X2, rfl⟩)
    go_ret
    exact ⟨rfl, exq⟩

set_option maxRecDepth 4000 in
set_option maxHeartbeats 1000000 in
theorem Compare_int_any (a b : List Nat) (va vb : Value) (w : World) (ha : IsRow (fun x : Nat => [.int .i64 (x : Int)]) 1 w va a) (hb : IsRow (fun x : Nat => [.int .i64 (x : Int)]) 1 w vb b) :
    Calls Tryz.prog 77 #[va, vb] w fun e w' => e = .returned (.int .i64 (compareN a b)) ∧ w.Exts w' := by
  obtain ⟨p1, b1, o1, cap1, rfl, hm1, hp1, hc1⟩ := ha.ex
  obtain ⟨p2, b2, o2, cap2, rfl, hm2, hp2, hc2⟩ := hb.ex
  have HP1 := Lib.hid hp1
  clear hp1
  have HC1 := Lib.hid hc1
  clear hc1
  have HP2 := Lib.hid hp2
  clear hp2
  have HC2 := Lib.hid hc2
  clear hc2
  clear ha hb
  go_enter Tryz.func77, Tryz.ntmps77
  go_wp2_with fail
  go_loopw [11] (fun i wr => ∃ k : Nat, k ≤ a.length ∧ i = .int .i64 k ∧ Hid (compareN a b = compareN (a.drop k) (b.drop k)) ∧ w.Exts wr) (fun i _ => a.length - (intOf i).toNat)
  case atStart => exact ⟨0, Nat.zero_le _, rfl, Lib.hid rfl, exq⟩
  case round =>
    obtain ⟨k, hk, rfl, HK, X, rfl⟩ := hrel
    by_cases hlt : k < a.length
    · obtain ⟨rfl, hl1⟩ := HP1.out (by omega)
      obtain ⟨x, hx⟩ := some_of_lt hlt
      have hcs := HC1.out k x hx
      have c0 := hcs 0 _ rfl
      simp only [Nat.mul_one, Nat.add_zero] at c0
      rcases Nat.lt_or_ge k b.length with h2 | h2
      · obtain ⟨rfl, hl2⟩ := HP2.out (by omega)
        obtain ⟨y, hy⟩ := some_of_lt h2
        have hds := HC2.out k y hy 0 _ rfl
        simp only [Nat.mul_one, Nat.add_zero] at hds
        have hst := compareN_step hx hy
        rcases Nat.lt_trichotomy x y with h | h | h
        · have hfin : compareN a b = -1 := by rw [HK.out, hst, if_neg (by omega), if_pos h]
          have hv : (if x = y then (0 : Int) else if x < y then -1 else 1) = -1 := by rw [if_neg (by omega), if_pos h]
          have HF := Lib.hid hfin
          clear hfin
          have HV := Lib.hid hv
          clear hv
          clear hx hy hcs hst
          go_wp2_with (go_at_call 91; refine (cmp_Compare_any x y _).mono ?_; rw [HV.out]; rintro e w' ⟨rfl, X2, rfl⟩)
          go_ret
          exact ⟨by rw [HF.out]; rfl, exq⟩
        · have hnx : compareN a b = compareN (a.drop (k + 1)) (b.drop (k + 1)) := by rw [HK.out, hst, if_pos h]
          have hv : (if x = y then (0 : Int) else if x < y then -1 else 1) = 0 := by rw [if_pos h]
          have HN := Lib.hid hnx
          clear hnx
          have HV := Lib.hid hv
          clear hv
          clear hx hy hcs hst h
          go_wp2_with (go_at_call 91; refine (cmp_Compare_any x y _).mono ?_; rw [HV.out]; rintro e w' ⟨rfl, X2, rfl⟩)
          go_roundw
          case rel => exact ⟨k + 1, by omega, by go_num, Lib.hid HN.out, exq⟩
          case measure => simp [intOf]; omega
        · have hfin : compareN a b = 1 := by rw [HK.out, hst, if_neg (by omega), if_neg (by omega)]
          have hv : (if x = y then (0 : Int) else if x < y then -1 else 1) = 1 := by rw [if_neg (by omega), if_neg (by omega)]
          have HF := Lib.hid hfin
          clear hfin
          have HV := Lib.hid hv
          clear hv
          clear hx hy hcs hst
          go_wp2_with (go_at_call 91; refine (cmp_Compare_any x y _).mono ?_; rw [HV.out]; rintro e w' ⟨rfl, X2, rfl⟩)
          go_ret
          exact ⟨by rw [HF.out]; rfl, exq⟩
      · have hfin : compareN a b = 1 := by rw [HK.out]; exact compareN_left hlt h2
        have HF := Lib.hid hfin
        clear hfin
        clear hx hcs
        go_wp2_with fail
        go_ret
        exact ⟨by rw [HF.out]; rfl, exq⟩
    · have hfin : compareN a b = if k < b.length then -1 else 0 := by rw [HK.out]; exact compareN_end (by omega)
      rcases Nat.lt_or_ge k b.length with h2 | h2
      · rw [if_pos h2] at hfin
        have HF := Lib.hid hfin
        clear hfin
        go_wp2_with fail
        go_ret
        exact ⟨by rw [HF.out]; rfl, exq⟩
      · rw [if_neg (by omega)] at hfin
        have HF := Lib.hid hfin
        clear hfin
        go_wp2_with fail
        go_ret
        exact ⟨by rw [HF.out]; rfl, exq⟩

end Go.Proofs.YtkgchngaganokaaGreatDoor

/-
  Walks of the reference: the members of a set; numbers within bounds; whether pieces are the best.
-/
namespace Go.Proofs.YtkgchngaganokaaGreatDoor
open Go.RowKit Kr
set_option linter.unusedSimpArgs false

def natCs (l : List Nat) : List Value := l.flatMap fun x : Nat => [.int .i64 (x : Int)]
theorem natCs_snoc (l : List Nat) (x : Nat) : natCs (l ++ [x]) = natCs l ++ [.int .i64 (x : Int)] := by simp [natCs]
theorem elem_intN : ElemOf Tryz.prog 37 3 (.int .i64 0) 1 8 := ⟨Tryz.underlying37, by kernel_rfl, rfl, by decide, by decide⟩
theorem row_nats {w : World} {base : Nat} {e : TypeId} {v : Value} {l : List Nat} (h : w.ownsRow base e 1 v l.length (natCs l)) : IsRow (fun x : Nat => [.int .i64 (x : Int)]) 1 w v l := IsRow.of_owns h (fun _ _ => rfl)

theorem bit_at : ∀ s : Fin 256, ∀ k : Fin 8, bits .and .i64 ((s.1 : Int) / 2 ^ k.1) 1 = if s.1.testBit k.1 then 1 else 0 := by decide +kernel

end Go.Proofs.YtkgchngaganokaaGreatDoor

/-
  Walks: how choices compare, and the least of them.
-/
namespace Go.Proofs.YtkgchngaganokaaGreatDoor
open Go.RowKit Kr
set_option linter.unusedSimpArgs false

/-- Choices, each with its pieces. -/
structure ChoicesAt (w : World) (v : Value) (l : List (Choice × Value)) : Prop where
  row : IsRow (fun x : Choice × Value => [.int .i64 x.1.weight, x.2]) 2 w v l
  each : ∀ x ∈ l, IsRow (fun x : Nat => [.int .i64 (x : Int)]) 1 w x.2 x.1.pieces
theorem ChoicesAt.mono {w w' : World} {v : Value} {l : List (Choice × Value)} (h : ChoicesAt w v l) (hE : w.Exts w') : ChoicesAt w' v l := ⟨h.row.mono hE, fun x hx => (h.each x hx).mono hE⟩

theorem laysAs_frozen' {W : World} {b i : Nat} {cs : Array Value} {t : TypeId} (h : LaysAs W b (.cells cs t (0, 0))) : W.frozen? ⟨b, i, none⟩ = false := by
  unfold LaysAs at h; simp [World.frozen?, h]
theorem laysAs_other' {w : World} {b : Nat} {ob : Obj} (h : LaysAs w b ob) {a : Addr} (ha : b ≠ a.block) (u : Value) : LaysAs (w.setCell a u) b ob := (World.heap_set_other w _ u ha).trans h
theorem better_step {m c : Choice} : better (some m) c = if cmpC c m < 0 then some c else some m := by
  unfold better
  dsimp only
  rw [← cmpC_less]
  by_cases h : cmpC c m < 0
  · simp [h]
  · simp [h]

end Go.Proofs.YtkgchngaganokaaGreatDoor

/-
  Walks of the reference: which pieces are added.
-/
namespace Go.Proofs.YtkgchngaganokaaGreatDoor
open Go.RowKit Kr
set_option linter.unusedSimpArgs false

theorem check_added0 {b : List Scale} {g : Gear} (h : check b g = 0) : check b { g with added := 0 } = 0 := by
  obtain ⟨h1, h2⟩ := check_zero h
  have h3 : gearOk b { g with added := 0 } = true := by
    unfold gearOk bare at h2 ⊢
    simp [inb] at h2 ⊢
    obtain ⟨⟨h4, h5⟩, h6⟩ := h2
    exact ⟨⟨h4, h5⟩, by simp_all⟩
  unfold check
  rw [h1, h3]
  rfl
theorem ballast_err {b : List Scale} {g : Gear} {n : Norm} {pieces : List Int} (h : check b g ≠ 0) : ballastR b g n pieces = ([], check b g) := by unfold ballastR; rw [if_pos h]
theorem ballast_norm {b : List Scale} {g : Gear} {n : Norm} {pieces : List Int} (h : check b g = 0) (h1 : normB n = false) : ballastR b g n pieces = ([], 42) := by unfold ballastR; rw [if_neg (by simp [h]), if_pos h1]
theorem ballast_arg {b : List Scale} {g : Gear} {n : Norm} {pieces : List Int} (h : check b g = 0) (h1 : normB n = true) (h2 : (inAll 0 1000000 pieces && decide (pieces.length ≤ 8)) = false) : ballastR b g n pieces = ([], 2) := by unfold ballastR; rw [if_neg (by simp [h]), if_neg (by simp [h1]), if_pos h2]
theorem ballast_none {b : List Scale} {g : Gear} {n : Norm} {pieces : List Int} (h : check b g = 0) (h1 : normB n = true) (h2 : (inAll 0 1000000 pieces && decide (pieces.length ≤ 8)) = true) (h3 : totals b { g with added := 0 } = []) : ballastR b g n pieces = ([], 6) := by unfold ballastR; rw [if_neg (by simp [h]), if_neg (by simp [h1]), if_neg (by simp [h2]), if_pos h3]
def outC : Option Choice → List Nat × Int
  | none => ([], 8)
  | some c => (c.pieces, 0)
theorem ballast_all {b : List Scale} {g : Gear} {n : Norm} {pieces : List Int} (h : check b g = 0) (h1 : normB n = true) (h2 : (inAll 0 1000000 pieces && decide (pieces.length ≤ 8)) = true) (h3 : totals b { g with added := 0 } ≠ []) : ballastR b g n pieces = outC (bestOf n (totals b { g with added := 0 }) pieces (2 ^ pieces.length)) := by
  unfold ballastR
  rw [if_neg (by simp [h]), if_neg (by simp [h1]), if_neg (by simp [h2]), if_neg h3]
  cases bestOf n (totals b { g with added := 0 }) pieces (2 ^ pieces.length) <;> rfl
theorem norm_bounds {n : Norm} (h : normB n = true) : (0 ≤ n.total.lo ∧ n.total.lo ≤ n.total.hi ∧ n.total.hi ≤ 10000000) ∧ 0 ≤ n.added ∧ n.added ≤ 1000000 := by
  unfold normB ordered inb at h
  simp at h
  omega

theorem wrap_pow : ∀ l : Fin 9, wrap64 ((2 : Int) ^ l.1) = ((2 ^ l.1 : Nat) : Int) := by decide +kernel
/-- The best choice of the first sets: its pieces, and what it weighs. -/
def BestIs (n : Norm) (T : List Span) (pieces : List Int) (k : Nat) (P : List Nat) (W : Int) : Prop :=
  (bestOf n T pieces k = none ∧ P = [] ∧ W = -1) ∨ (∃ c, bestOf n T pieces k = some c ∧ P = c.pieces ∧ W = c.weight ∧ 0 ≤ c.weight)

end Go.Proofs.YtkgchngaganokaaGreatDoor

/-
  Walks of package scale: what is known of a total that was weighed twice.
-/
namespace Go.Proofs.YtkgchngaganokaaGreatDoor
open Go.RowKit Kr
set_option linter.unusedSimpArgs false

theorem row_appended {α : Type} {enc : α → List Value} {k base : Nat} {W w' : World} {v out out' : Value} {xs : List α} (h : IsRow enc k W v xs) (ha : AppendedW W w' out out' base) (hne : ∀ b, v.ownBlock = some b → out.ownBlock ≠ some b) : IsRow enc k w' v xs := by
  obtain ⟨p, b, o, cap, rfl, hm, hp, hc⟩ := h.ex
  refine ⟨p, b, o, cap, rfl, hm, fun h0 => ⟨(hp h0).1, ⟨Nat.lt_of_lt_of_le (hp h0).2.lt ha.size⟩⟩, fun i x hx j u hu => ?_⟩
  have h0 : 0 < xs.length := by have := (List.getElem?_eq_some_iff.1 hx).1; omega
  obtain ⟨rfl, hl⟩ := hp h0
  have hb := ha.block b hl.lt (fun e => hne b rfl e.symm)
  have h1 := hc i x hx j u hu
  unfold World.cell? at h1 ⊢
  rw [hb]
  exact h1
theorem own_lt {α : Type} {enc : α → List Value} {k : Nat} {W : World} {v : Value} {xs : List α} (h : IsRow enc k W v xs) (h0 : 0 < xs.length) {b : Nat} (hb : v.ownBlock = some b) : b < W.heap.size := by
  obtain ⟨p, b', o, cap, rfl, hm, hp, hc⟩ := h.ex
  obtain ⟨rfl, hl⟩ := hp h0
  simp [Value.ownBlock] at hb
  subst hb
  exact hl.lt

theorem gears2 {w : World} {x y : GearV} (hx : GearAt w x) (hy : GearAt w y) : ∀ z ∈ [x, y], GearAt w z := fun z hz => by
  simp only [List.mem_cons, List.not_mem_nil, or_false] at hz
  rcases hz with rfl | rfl
  · exact hx
  · exact hy

end Go.Proofs.YtkgchngaganokaaGreatDoor

/-
  Walks of package scale: which pieces are added.
-/
namespace Go.Proofs.YtkgchngaganokaaGreatDoor
open Go.RowKit Kr
set_option linter.unusedSimpArgs false

theorem row_two (w : World) (a b : Int) : IsRow (fun x : Int => [.int .i64 x]) 1 (w.alloc (.cells #[.int .i64 a, .int .i64 b] 3)) (.slice (some ⟨w.heap.size, 0, none⟩) 2 2) [a, b] := by
  refine ⟨some ⟨w.heap.size, 0, none⟩, w.heap.size, 0, 2, rfl, by simp, fun _ => ⟨rfl, lays_new _ _⟩, fun i x h j u hj => ?_⟩
  rcases j with _ | j <;> simp at hj
  subst hj
  rcases i with _ | _ | i <;> simp at h
  all_goals
    subst h
    rw [World.cell?_alloc_new]
    rfl

theorem choices_len (n : Norm) (T : List Span) (pieces : List Int) (k : Nat) : (choices n T pieces k).length ≤ k := by
  unfold choices
  exact Nat.le_trans (List.length_filter_le _ _) (by simp)
/-- A store into a box of numbers leaves a hall. -/
theorem hallAt_set {W : World} {b : Nat} {v : Value} {ts : List (Kr.Scale × Value)} {a : Addr} {u : Value} {z : Int} (h : HallAt Tryz.prog 3 W b v ts) (hb : BayAt (W.setCell a u) v ts) (hc : W.cell? ⟨a.block, 1, none⟩ = some (.int .i64 z)) : HallAt Tryz.prog 3 (W.setCell a u) b v ts := by
  obtain ⟨m, D, h1, h2, h3, h4⟩ := h.ex
  have hba : a.block ≠ b := fun e => by
    rw [e, h2] at hc
    cases hc
  have hma : m ≠ a.block := fun e => by
    obtain ⟨es, clock, hm, _⟩ := h3
    rw [e] at hm
    simp [World.cell?, hm] at hc
  refine ⟨⟨m, D, ?_, ?_, h3.setCell hma u, h4⟩, hb⟩
  · rw [World.cell?_setCell_other W _ _ u (fun e => hba (by rw [e]))]; exact h1
  · rw [World.cell?_setCell_other W _ _ u (fun e => hba (by rw [e]))]; exact h2

end Go.Proofs.YtkgchngaganokaaGreatDoor
