/-
  Several texts in one: see the heads of its parts.
-/
import Derived.Test.YtfjkiemjmnnbkaaGreatDoorTold
import Derived.Test.YtfjkiemjmnnbkaaGreatDoorHp
import Derived.Test.YtfjkiemjmnnbkaaGreatDoorWd
import Derived.Test.YtfjkiemjmnnbkaaGreatDoorTm

/-
  How large totals are; and what else is plain behind ScaleTuned and ScaleFirst.
-/
namespace Go.Proofs.YtfjkiemjmnnbkaaGreatDoor
open Go.RowKit Kr
set_option linter.unusedSimpArgs false

theorem sum_bd {M : Int} : ∀ (l : List Int), (∀ x ∈ l, 0 ≤ x ∧ x ≤ M) → 0 ≤ l.sum ∧ l.sum ≤ M * (l.length : Int)
  | [], _ => by simp
  | x :: l, h => by
    have h1 := sum_bd l fun y hy => h y (List.mem_cons_of_mem _ hy)
    have h2 := h x (List.mem_cons_self ..)
    rw [List.sum_cons, List.length_cons, Int.natCast_succ, Int.mul_add, Int.mul_one]
    omega
theorem truth_each {b : List Kr.Scale} {ls : List Kr.Load} {T : Int → Int × Int} {ws : List Int} (hl : ∀ l ∈ ls, ∃ s ∈ b, s.id = l.scale) (h : TruthOf b ls T ws) : ∀ w ∈ ws, 0 ≤ w ∧ w ≤ 1000000 := by
  intro w hw
  obtain ⟨i, hi, rfl⟩ := List.mem_iff_getElem.1 hw
  obtain ⟨-, h2, h3⟩ := h
  have hil : i < ls.length := by omega
  obtain ⟨s, hs, e⟩ := hl ls[i] (List.getElem_mem hil)
  exact (h3 s hs i ls[i] ws[i] (List.getElem?_eq_getElem hil) (List.getElem?_eq_getElem hi) e.symm).1
theorem has_bd {b : List Kr.Scale} {g : Gear} (h : check b g = 0) {x : Int} (hx : has (totals b g) x) : 0 ≤ x ∧ x ≤ 7000000 := by
  obtain ⟨hb, hg⟩ := check_zero h
  obtain ⟨T, ws, h1, h2⟩ := (totals_truth h x).1 hx
  have h3 := sum_bd ws (truth_each (gearOk_at hg) h1)
  have h4 := h1.2.1
  have h5 : g.loads.length ≤ 6 := by simp [gearOk] at hg; exact hg.1.2
  have h6 := (bare_bounds (gearOk_bare hg)).1
  rw [h4] at h3
  omega
theorem totals_bd {b : List Kr.Scale} {g : Gear} (h : check b g = 0) : ∀ s ∈ totals b g, 0 ≤ s.lo ∧ s.lo ≤ s.hi ∧ s.hi ≤ 7000000 := by
  intro s hs
  have hf := (totals_neat b g).1 s hs
  exact ⟨(has_bd h ⟨s, hs, Int.le_refl _, hf⟩).1, hf, (has_bd h ⟨s, hs, hf, Int.le_refl _⟩).2⟩
theorem row_three (w : World) (a b c : Int) (n : Nat) (hn : n = w.heap.size) : IsRow (fun x : Int => [.int .i64 x]) 1 (w.alloc (.cells #[.int .i64 a, .int .i64 b, .int .i64 c] 3)) (.slice (some ⟨n, 0, none⟩) 3 3) [a, b, c] := by
  have h : BlkAt (w.alloc (.cells ([.int .i64 a, .int .i64 b, .int .i64 c] : List Value).toArray 3)) n (([a, b, c] : List Int).flatMap fun x => [.int .i64 x]) := BlkAt.new w _ _ hn
  exact IsRow.of_blk (enc := fun x : Int => [.int .i64 x]) (k := 1) (xs := [a, b, c]) (fun _ => rfl) h ⟨by subst hn; simp⟩ (by simp)
end Go.Proofs.YtfjkiemjmnnbkaaGreatDoor

/-
  A map from Ids to tunes, as ScaleTuned and ScaleFirst fill and read it; what is plain behind their rounds.
-/
namespace Go.Proofs.YtfjkiemjmnnbkaaGreatDoor
open Go.RowKit Go.Maps Kr
set_option linter.unusedSimpArgs false

def tnVal (p : Int × Int) : Value := .agg #[.int .i64 p.1, .int .i64 p.2]
def tnPairs (U : List Kr.Scale) (T : Int → Int × Int) : List (Int × Value) := U.map fun s => (s.id, tnVal (T s.id))
/-- A map lies at a block: the tunes of some scales. -/
structure TMap (W : World) (B : Nat) (U : List Kr.Scale) (T : Int → Int × Int) : Prop where
  ex : ∃ D, W.ownsMap Tryz.prog 3 readSelf B U.length D ∧ HoldsPairs D (tnPairs U T)
theorem TMap.exts {W W' : World} {B : Nat} {U : List Kr.Scale} {T : Int → Int × Int} (h : TMap W B U T) (hE : W.Exts W') : TMap W' B U T := by
  obtain ⟨D, h1, h2⟩ := h.ex
  exact ⟨D, ownsMap_exts h1 hE, h2⟩
theorem TMap.new (W : World) (T : Int → Int × Int) : TMap (W.alloc (.map #[] 0)) W.heap.size [] T := ⟨_, World.ownsMap_made W Tryz.prog 3 readSelf, HoldsPairs.nil⟩
theorem tnPairs_find {U : List Kr.Scale} {T : Int → Int × Int} {s : Kr.Scale} (hs : s ∈ U) {n : Int} (hn : n = s.id) : ∃ m, (tnPairs U T).find? (fun p => p.1 == n) = some (m, tnVal (T s.id)) := by
  subst hn
  unfold tnPairs
  rw [List.find?_map]
  have h1 : (U.find? ((fun p : Int × Value => p.1 == s.id) ∘ fun s => (s.id, tnVal (T s.id)))).isSome := List.find?_isSome.2 ⟨s, hs, by simp⟩
  obtain ⟨t, ht⟩ := Option.isSome_iff_exists.1 h1
  rw [ht]
  have h3 := List.find?_some ht
  simp at h3
  exact ⟨t.id, by rw [Option.map_some, h3]⟩
theorem zero_pair' (w : World) : (zeroValue 61).run Tryz.prog w = .ok (.agg #[.int .i64 0, .int .i64 0]) w := by kernel_rfl
/-- The map is read at a scale that it holds. -/
theorem TMap.look {W : World} {B : Nat} {U : List Kr.Scale} {T : Int → Int × Int} (h : TMap W B U T) {s : Kr.Scale} (hs : s ∈ U) {n : Int} (hn : n = s.id) (hwf : (Lit.int .i64 n).wf = true) :
    (Instr.lookup 87 (.map (some B)) (.int .i64 n) false).run Tryz.prog W = .ok (.agg #[.int .i64 (T s.id).1, .int .i64 (T s.id).2]) W := by
  obtain ⟨D, h1, h2⟩ := h.ex
  have hkey : keyOf Tryz.prog 3 (.int .i64 n) = some (.int .i64 n) := Maps.keyOf_int_mk Tryz.underlying3 hwf
  obtain ⟨m, e⟩ := tnPairs_find (T := T) hs hn
  have hv : D.atKey (.int .i64 n) (.held (.agg #[.int .i64 0, .int .i64 0])) = .held (tnVal (T s.id)) := by rw [h2.at_, e]
  exact look_self h1 law_int Tryz.underlying87 (zero_pair' _) hkey hv
/-- The map is written at a scale that it does not hold. -/
theorem TMap.put {w1 : World} {B : Nat} {U : List Kr.Scale} {T : Int → Int × Int} {D : DataW Value} {s : Kr.Scale} (h2 : HoldsPairs D (tnPairs U T)) (hf : ∀ t ∈ U, t.id ≠ s.id) (hown : w1.ownsMap Tryz.prog 3 readSelf B (U.length + 1) (D.put (.int .i64 s.id) (.held (tnVal (T s.id))))) : TMap w1 B (U ++ [s]) T := by
  refine ⟨_, by rw [List.length_append]; exact hown, ?_⟩
  have := h2.put s.id (tnVal (T s.id)) (fun p hp => by obtain ⟨x, hx, rfl⟩ := List.mem_map.1 hp; exact hf x hx)
  unfold tnPairs
  rw [List.map_append]
  exact this

theorem used_take {b : List Kr.Scale} {ls : List Kr.Load} {k : Nat} {s : Kr.Scale} (h : b[k]? = some s) : used (b.take (k + 1)) ls = if usedB ls s then used (b.take k) ls ++ [s] else used (b.take k) ls := by
  unfold used
  rw [take_snoc h, List.filter_append]
  cases hu : usedB ls s <;> simp [hu]
theorem used_take_hit {b : List Kr.Scale} {ls : List Kr.Load} {k : Nat} {s : Kr.Scale} (h : b[k]? = some s) (hu : usedB ls s = true) : (used b ls)[(used (b.take k) ls).length]? = some s := by
  have e : used b ls = used (b.take k) ls ++ (s :: used (b.drop (k + 1)) ls) := by
    conv => lhs; rw [← List.take_append_drop k b]
    have hd : b.drop k = s :: b.drop (k + 1) := by
      obtain ⟨h1, h2⟩ := List.getElem?_eq_some_iff.1 h
      rw [List.drop_eq_getElem_cons h1, h2]
    unfold used
    rw [List.filter_append, hd, List.filter_cons, if_pos hu]
  rw [e, List.getElem?_append_right (Nat.le_refl _), Nat.sub_self]
  rfl
theorem used_take_sub {b : List Kr.Scale} {ls : List Kr.Load} {k : Nat} {s : Kr.Scale} (h : s ∈ used (b.take k) ls) : s ∈ used b ls := by
  have h1 := List.mem_filter.1 h
  exact List.mem_filter.2 ⟨List.mem_of_mem_take h1.1, h1.2⟩
theorem used_take_fresh {b : List Kr.Scale} (hp : b.Pairwise IdLt) {ls : List Kr.Load} {k : Nat} {s : Kr.Scale} (h : b[k]? = some s) : ∀ t ∈ used (b.take k) ls, t.id ≠ s.id := by
  intro t ht
  have h1 := (List.mem_filter.1 ht).1
  obtain ⟨j, hj, rfl⟩ := List.mem_take_iff_getElem.1 h1
  obtain ⟨h2, h3⟩ := List.getElem?_eq_some_iff.1 h
  have := List.pairwise_iff_getElem.1 hp j k (by omega) h2 (by omega)
  rw [h3] at this
  unfold IdLt at this
  omega
theorem used_take_len (b : List Kr.Scale) (ls : List Kr.Load) (k : Nat) : (used (b.take k) ls).length ≤ b.length := by
  unfold used
  refine Nat.le_trans (List.length_filter_le _ _) ?_
  rw [List.length_take]; omega
theorem truthOf_true {b : List Kr.Scale} {ls : List Kr.Load} {T : Int → Int × Int} {ws : List Int} (h : TruthOf b ls T ws) {s : Kr.Scale} (hs : s ∈ used b ls) (hr : right s = true) :
    trueB s (T s.id).1 (T s.id).2 = true ∧ (-10 ≤ (T s.id).1 ∧ (T s.id).1 ≤ 10) ∧ (-100 ≤ (T s.id).2 ∧ (T s.id).2 ≤ 100) := ⟨h.1 s hs, trueB_gain hr (h.1 s hs)⟩
/-- A load's scale, as 'At' finds it. -/
theorem load_at {ts : List (Kr.Scale × Value)} {ls : List Kr.Load} {l : Kr.Load} (hl : l ∈ ls) (hx : ∀ l ∈ ls, ∃ s ∈ ts.map Prod.fst, s.id = l.scale) :
    ∃ (m : Nat) (x : Kr.Scale × Value), ts[m]? = some x ∧ firstAt (fun x => x.1.id == l.scale) ts = (m : Int) ∧ l.scale = x.1.id ∧ x ∈ ts ∧ x.1 ∈ used (ts.map Prod.fst) ls := by
  rcases firstAt_cases (fun x : Kr.Scale × Value => x.1.id == l.scale) ts with ⟨-, h⟩ | ⟨m, x, h1, h2, -, h3⟩
  · obtain ⟨s, hs, e⟩ := hx l hl
    obtain ⟨x, hx1, rfl⟩ := List.mem_map.1 hs
    have := List.find?_eq_none.1 h x hx1
    simp [e] at this
  · have hm := List.mem_of_getElem? h1
    have he : x.1.id = l.scale := by simpa using h3
    exact ⟨m, x, h1, h2, he.symm, hm, List.mem_filter.2 ⟨List.mem_map.2 ⟨x, hm, rfl⟩, List.any_eq_true.2 ⟨l, hl, by simp [he]⟩⟩⟩
theorem sum_take {ws : List Int} {k : Nat} {x : Int} (h : ws[k]? = some x) : (ws.take (k + 1)).sum = (ws.take k).sum + x := by
  rw [take_snoc h, List.sum_append]; simp
theorem sum_take_bd {M : Int} (hM : 0 ≤ M) {ws : List Int} (h : ∀ x ∈ ws, 0 ≤ x ∧ x ≤ M) (k : Nat) (hn : ws.length ≤ 6) : 0 ≤ (ws.take k).sum ∧ (ws.take k).sum ≤ M * 6 := by
  have h1 := sum_bd (ws.take k) fun x hx => h x (List.mem_of_mem_take hx)
  refine ⟨h1.1, Int.le_trans h1.2 (Int.mul_le_mul_of_nonneg_left ?_ hM)⟩
  rw [List.length_take]; omega
end Go.Proofs.YtfjkiemjmnnbkaaGreatDoor
