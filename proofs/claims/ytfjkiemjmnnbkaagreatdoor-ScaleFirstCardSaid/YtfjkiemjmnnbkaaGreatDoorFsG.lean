/-
  Several texts in one: see the heads of its parts.
-/
import Derived.Test.YtfjkiemjmnnbkaaGreatDoorTold
import Derived.Test.YtfjkiemjmnnbkaaGreatDoorTdG
import Derived.Test.YtfjkiemjmnnbkaaGreatDoorTsA

/-
  The first truth: what is told comes, as a list of numbers, before each truth with its weights, or is the same. Plain laws.
-/
namespace Kr
open Go.Proofs.YtfjkiemjmnnbkaaGreatDoor

/-- A truth and weights as a list of numbers. -/
def flatTW (U : List Scale) (T : Int → Int × Int) (ws : List Int) : List Int := (U.flatMap fun s => [(T s.id).1, (T s.id).2]) ++ ws
theorem first_lex {b : List Scale} {g : Gear} (h : check b g = 0) {T : Int → Int × Int} {ws : List Int} (ht : TruthOf b g.loads T ws) {x : Int} (hx : g.added + ws.sum = x) :
    has (totals b g) x ∧ ∃ ch ws', truthR b g x = ((ch, ws'), 0) ∧ ch.length = (used b g.loads).length ∧ ws'.length = g.loads.length ∧ LexLe (flatT ch ++ ws') (flatTW (used b g.loads) T ws) := by
  have hhas := (totals_truth h x).2 ⟨T, ws, ht, hx⟩
  obtain ⟨ch, ws', e1, e2, e3, -, -, -, ⟨r, hgr⟩, elay⟩ := truth_some h hhas
  refine ⟨hhas, ch, ws', e1, e2, e3, ?_⟩
  obtain ⟨hb, hg⟩ := check_zero h
  have hp := bayOk_ids hb
  have hr := bayOk_right hb
  have hl := gearOk_at hg
  have hlu := used_at hl
  have hpu := used_ids hb g.loads
  have hsub : ∀ s ∈ used b g.loads, s ∈ b := fun s hs => (List.mem_filter.1 hs).1
  have hfu : ∀ s ∈ used b g.loads, b.find? (fun t => t.id == s.id) = some s := fun s hs => find_id hp (hsub s hs) rfl
  obtain ⟨htrue, hrest⟩ := ht
  have hpk := (truthOf_picks hp hl (fun s hs => (trueB_gain (hr s (hsub s hs)) (htrue s hs)).1)).1 hrest
  have hful := hpk.full
  have hsum := hpk.sum
  have hown : ∀ s ∈ used b g.loads, Full (ownW s (T s.id).1 (T s.id).2 g.loads) := by
    intro s hs t ht
    obtain ⟨l, hl2, rfl⟩ := List.mem_map.1 ht
    obtain ⟨hl2, he⟩ := List.mem_filter.1 hl2
    refine hful _ (List.mem_map.2 ⟨l, hl2, ?_⟩)
    unfold spanOf
    rw [find_id hp (hsub s hs) (by simpa using he)]
  obtain ⟨P, hP⟩ : ∃ P : Scale → Part, P = fun s => ⟨(T s.id).1, (T s.id).2, ⟨sumLo (ownW s (T s.id).1 (T s.id).2 g.loads), sumHi (ownW s (T s.id).1 (T s.id).2 g.loads)⟩⟩ := ⟨_, rfl⟩
  have hPs : ∀ s, (P s).gain = (T s.id).1 ∧ (P s).off = (T s.id).2 := fun s => by rw [hP]; exact ⟨rfl, rfl⟩
  have hc := chosen_of (ls := g.loads) (U := used b g.loads) P (fun s hs => mem_parts.2 ⟨by rw [(hPs s).1, (hPs s).2]; exact htrue s hs, by rw [(hPs s).1, (hPs s).2, partSum_iff]; exact ⟨hown s hs, by rw [hP]⟩⟩)
  have hzip : ∀ y ∈ (used b g.loads).zip ((used b g.loads).map P), y.2 = P y.1 := by
    intro y hy
    rw [List.zip_map_right] at hy
    obtain ⟨z, hz, rfl⟩ := List.mem_map.1 hy
    have : z.1 = z.2 := by
      obtain ⟨i, hi, rfl⟩ := List.mem_iff_getElem.1 hz
      simp
    simp [this]
  have hs := chosen_sum hc
  rw [gathL_by (b := b) (T := T) hpu (by rw [List.length_map]) (fun y hy => by rw [hzip y hy, (hPs _).1, (hPs _).2]) hlu hfu] at hs
  have hres := greedy_first hgr (Int.le_refl _) hc (by dsimp only; omega) (by dsimp only; omega) ws' ws (fun e => by
    subst e
    have hmap : g.loads.map (spanOf b (tuneOf ((used b g.loads).zip ((used b g.loads).map P)))) = g.loads.map (spanOf b T) := List.map_congr_left fun l hl' => by
      obtain ⟨s, hs, he⟩ := hlu l hl'
      have hm : (s, P s) ∈ (used b g.loads).zip ((used b g.loads).map P) := by
        obtain ⟨i, hi, rfl⟩ := List.mem_iff_getElem.1 hs
        exact List.mem_of_getElem? (i := i) (by rw [List.getElem?_zip_eq_some]; exact ⟨List.getElem?_eq_getElem hi, by rw [List.getElem?_map, List.getElem?_eq_getElem hi]; rfl⟩)
      have ht := tuneOf_zip (zip_ids hpu _) hm
      dsimp only at ht
      rw [(hPs s).1, (hPs s).2] at ht
      unfold spanOf
      rw [find_id hp (hsub s hs) he.symm]
      dsimp only
      rw [ht]
    rw [elay, hmap]
    exact layF_first hpk (by omega)) (by rw [e3, hrest.1])
  have e : flatT ((used b g.loads).map P) = (used b g.loads).flatMap fun s => [(T s.id).1, (T s.id).2] := by
    unfold flatT
    rw [List.flatMap_map]
    congr 1
    funext s
    rw [(hPs s).1, (hPs s).2]
  unfold flatTW
  rw [← e]
  exact hres
end Kr

/-
  What is plain behind the walk of ScaleFirst: the truth that is chosen, and its weights.
-/
namespace Go.Proofs.YtfjkiemjmnnbkaaGreatDoor
open Go.RowKit Go.Maps Kr
set_option linter.unusedSimpArgs false

def tnFs (by_ : List Int) (i : Nat) (s : Kr.Scale) : Int × Int := (s.gain.lo + chooseL by_ (2 * i) % (s.gain.hi - s.gain.lo + 1), s.off.lo + chooseL by_ (2 * i + 1) % (s.off.hi - s.off.lo + 1))
def TFs (b : List Kr.Scale) (by_ : List Int) (n : Int) : Int × Int := match b.findIdx? (fun s => s.id == n) with | some i => (match b[i]? with | some s => tnFs by_ i s | none => (0, 0)) | none => (0, 0)
theorem TFs_at {b : List Kr.Scale} (hp : b.Pairwise IdLt) {by_ : List Int} {i : Nat} {s : Kr.Scale} (h : b[i]? = some s) : TFs b by_ s.id = tnFs by_ i s := by
  have e : b.findIdx? (fun t => t.id == s.id) = some i := by
    obtain ⟨h1, h2⟩ := List.getElem?_eq_some_iff.1 h
    rw [List.findIdx?_eq_some_iff_getElem]
    refine ⟨h1, by rw [h2]; simp, fun j hj => ?_⟩
    have := List.pairwise_iff_getElem.1 hp j i (by omega) h1 hj
    rw [h2] at this
    unfold IdLt at this
    simp
    omega
  unfold TFs
  rw [e]
  dsimp only
  rw [h]
theorem emod_bd {a m : Int} (h : 0 < m) : 0 ≤ a % m ∧ a % m < m := ⟨Int.emod_nonneg _ (by omega), Int.emod_lt_of_pos _ h⟩
theorem tnFs_bd {by_ : List Int} {i : Nat} {s : Kr.Scale} (hr : right s = true) : (s.gain.lo ≤ (tnFs by_ i s).1 ∧ (tnFs by_ i s).1 ≤ s.gain.hi) ∧ (s.off.lo ≤ (tnFs by_ i s).2 ∧ (tnFs by_ i s).2 ≤ s.off.hi) := by
  have h := right_bounds hr
  have h1 := emod_bd (a := chooseL by_ (2 * i)) (m := s.gain.hi - s.gain.lo + 1) (by omega)
  have h2 := emod_bd (a := chooseL by_ (2 * i + 1)) (m := s.off.hi - s.off.lo + 1) (by omega)
  unfold tnFs
  dsimp only
  omega
/-- Weights so far: each in its load's span. -/
def InSpans (b : List Kr.Scale) (T : Int → Int × Int) (ls : List Kr.Load) (ws : List Int) : Prop := ∀ (i : Nat) (l : Kr.Load) (w : Int), ls[i]? = some l → ws[i]? = some w → (spanOf b T l).lo ≤ w ∧ w ≤ (spanOf b T l).hi
theorem InSpans.nil (b : List Kr.Scale) (T : Int → Int × Int) (ls : List Kr.Load) : InSpans b T ls [] := fun i l w _ h => by simp at h
theorem InSpans.snoc {b : List Kr.Scale} {T : Int → Int × Int} {ls : List Kr.Load} {ws : List Int} (h : InSpans b T ls ws) {l : Kr.Load} (hl : ls[ws.length]? = some l) {n : Int} (hn : (spanOf b T l).lo ≤ n ∧ n ≤ (spanOf b T l).hi) : InSpans b T ls (ws ++ [n]) := by
  intro i l2 w h1 h2
  rcases Nat.lt_trichotomy i ws.length with hi | hi | hi
  · rw [List.getElem?_append_left hi] at h2
    exact h i l2 w h1 h2
  · subst hi
    rw [hl, Option.some.injEq] at h1
    subst h1
    simp at h2
    subst h2
    exact hn
  · rw [List.getElem?_eq_none (by simp; omega)] at h2
    cases h2
theorem picks_of : ∀ {b : List Kr.Scale} {T : Int → Int × Int} {ls : List Kr.Load} {ws : List Int}, InSpans b T ls ws → ws.length = ls.length → Picks ws (ls.map (spanOf b T))
  | _, _, [], [], _, _ => trivial
  | _, _, [], _ :: _, _, h => by cases h
  | _, _, _ :: _, [], _, h => by cases h
  | b, T, l :: ls, w :: ws, h, hl => ⟨h 0 l w rfl rfl, picks_of (ls := ls) (fun i l2 w2 h1 h2 => h (i + 1) l2 w2 (by simpa using h1) (by simpa using h2)) (by simpa using hl)⟩
/-- The truth and the weights that were chosen are ones. -/
theorem truthOf_fs {b : List Kr.Scale} {g : Gear} (h : check b g = 0) {T : Int → Int × Int} {ws : List Int} (ht : ∀ s ∈ used b g.loads, trueB s (T s.id).1 (T s.id).2 = true) (hs : InSpans b T g.loads ws) (hl : ws.length = g.loads.length) : TruthOf b g.loads T ws := by
  obtain ⟨hb, hg⟩ := check_zero h
  have hr := bayOk_right hb
  have hsub : ∀ s ∈ used b g.loads, s ∈ b := fun s hs => (List.mem_filter.1 hs).1
  exact ⟨ht, (truthOf_picks (bayOk_ids hb) (gearOk_at hg) (fun s hs => (trueB_gain (hr s (hsub s hs)) (ht s hs)).1)).2 (picks_of hs hl)⟩
theorem spanOf_at {b : List Kr.Scale} (hp : b.Pairwise IdLt) {T : Int → Int × Int} {l : Kr.Load} {s : Kr.Scale} (hs : s ∈ b) (he : l.scale = s.id) : spanOf b T l = wt s.step (T s.id).1 (T s.id).2 l.shown := by
  unfold spanOf
  rw [find_id hp hs he]
/-- The numbers of the scales so far. -/
def flatU (U : List Kr.Scale) (T : Int → Int × Int) : List Int := U.flatMap fun s => [(T s.id).1, (T s.id).2]
theorem flatU_snoc (U : List Kr.Scale) (T : Int → Int × Int) (s : Kr.Scale) : flatU (U ++ [s]) T = flatU U T ++ [(T s.id).1, (T s.id).2] := by unfold flatU; rw [List.flatMap_append]; simp
theorem flatU_len (U : List Kr.Scale) (T : Int → Int × Int) : (flatU U T).length = 2 * U.length := by
  induction U with
  | nil => rfl
  | cons s U ih => unfold flatU at ih ⊢; rw [List.flatMap_cons, List.length_append, ih]; simp; omega
theorem flatT_snoc (l : List Part) (q : Part) : flatT (l ++ [q]) = flatT l ++ [q.gain, q.off] := by unfold flatT; rw [List.flatMap_append]; simp
theorem flatT_len (l : List Part) : (flatT l).length = 2 * l.length := by
  induction l with
  | nil => rfl
  | cons q l ih => unfold flatT at ih ⊢; rw [List.flatMap_cons, List.length_append, ih]; simp; omega
end Go.Proofs.YtfjkiemjmnnbkaaGreatDoor

/-
  What lies in memory while ScaleFirst chooses: the map of tunes, and the list of numbers.
-/
namespace Go.Proofs.YtfjkiemjmnnbkaaGreatDoor
open Go.RowKit Go.Maps Kr
set_option linter.unusedSimpArgs false

structure FsAt (V W : World) (U : List Kr.Scale) (T : Int → Int × Int) (l : List Int) (lv : Value) : Prop where
  ext : V.Exts W
  map : TMap W V.heap.size U T
  row : W.ownsRow (V.heap.size + 1) 3 1 lv l.length (intCs l)
theorem FsAt.start (V : World) (T : Int → Int × Int) : FsAt V (V.alloc (.map #[] 0)) [] T [] (.slice none 0 0) := ⟨(World.Exts.refl V).alloc _, TMap.new V T, World.ownsRow_nil _ _ _ _⟩
section
variable {V W W' w' : World} {U : List Kr.Scale} {T : Int → Int × Int} {l : List Int} {lv v' : Value}
theorem FsAt.exts (h : FsAt V W U T l lv) (hE : W.Exts W') : FsAt V W' U T l lv := ⟨h.ext.trans hE, h.map.exts hE, ownsRow_exts h.row hE⟩
theorem FsAt.big (h : FsAt V W U T l lv) : V.heap.size + 1 ≤ W.heap.size := by
  obtain ⟨D, h1, _⟩ := h.map.ex
  exact h1.lt
theorem FsAt.isRow (h : FsAt V W U T l lv) : IsRow (fun x : Int => [.int .i64 x]) 1 W lv l := row_ints h.row
theorem FsAt.put {D : DataW Value} {s : Kr.Scale} (h : FsAt V W U T l lv) (hD : HoldsPairs D (tnPairs U T)) (hf : ∀ t ∈ U, t.id ≠ s.id) (hown : w'.ownsMap Tryz.prog 3 readSelf V.heap.size (U.length + 1) (D.put (.int .i64 s.id) (.held (tnVal (T s.id))))) (hg : W.grownBy w' (some V.heap.size)) : FsAt V w' (U ++ [s]) T l lv :=
  ⟨exts_turned h.ext (Nat.le_refl _) hg, TMap.put hD hf hown, h.row.kept hg (.inr (fun e => owns_off h.row (b := V.heap.size) (by omega) e))⟩
theorem FsAt.app (h : FsAt V W U T l lv) (ys : List Int) (hown : w'.ownsRow (V.heap.size + 1) 3 1 v' (l.length + ys.length) (intCs l ++ ys.flatMap fun x => [.int .i64 x])) (happ : Appended W w' lv (V.heap.size + 1)) : FsAt V w' U T (l ++ ys) v' := by
  have hVw := happ.exts V h.ext (by omega)
  have hg : W.grownBy w' lv.ownBlock := ⟨hVw.below.os.trans h.ext.below.os.symm, hVw.below.tape.trans h.ext.below.tape.symm, hVw.below.output.trans h.ext.below.output.symm, happ.size, fun k hk hne => happ.block k hk hne⟩
  obtain ⟨D, h1, h2⟩ := h.map.ex
  refine ⟨hVw, ⟨D, h1.kept hg (fun e => owns_off h.row (b := V.heap.size) (by omega) e.symm), h2⟩, ?_⟩
  have e : intCs (l ++ ys) = intCs l ++ ys.flatMap fun x => [.int .i64 x] := by unfold intCs; rw [List.flatMap_append]
  rw [List.length_append, e]
  exact hown
end
theorem row_pr (w : World) (a b : Int) (n : Nat) (hn : n = w.heap.size) : IsRow (fun x : Int => [.int .i64 x]) 1 (w.alloc (.cells #[.int .i64 a, .int .i64 b] 3)) (.slice (some ⟨n, 0, none⟩) 2 2) [a, b] := by
  have h : BlkAt (w.alloc (.cells ([.int .i64 a, .int .i64 b] : List Value).toArray 3)) n (([a, b] : List Int).flatMap fun x => [.int .i64 x]) := BlkAt.new w _ _ hn
  exact IsRow.of_blk (enc := fun x : Int => [.int .i64 x]) (k := 1) (xs := [a, b]) (fun _ => rfl) h ⟨by subst hn; simp⟩ (by simp)
theorem row_on (w : World) (a : Int) (n : Nat) (hn : n = w.heap.size) : IsRow (fun x : Int => [.int .i64 x]) 1 (w.alloc (.cells #[.int .i64 a] 3)) (.slice (some ⟨n, 0, none⟩) 1 1) [a] := by
  have h : BlkAt (w.alloc (.cells ([.int .i64 a] : List Value).toArray 3)) n (([a] : List Int).flatMap fun x => [.int .i64 x]) := BlkAt.new w _ _ hn
  exact IsRow.of_blk (enc := fun x : Int => [.int .i64 x]) (k := 1) (xs := [a]) (fun _ => rfl) h ⟨by subst hn; simp⟩ (by simp)
/-- The numbers that were chosen so far are as they should be. -/
def TrueU (U : List Kr.Scale) (T : Int → Int × Int) : Prop := ∀ s ∈ U, trueB s (T s.id).1 (T s.id).2 = true
theorem TrueU.snoc {U : List Kr.Scale} {T : Int → Int × Int} {s : Kr.Scale} (h : TrueU U T) (hs : trueB s (T s.id).1 (T s.id).2 = true) : TrueU (U ++ [s]) T := by
  intro t ht
  rcases List.mem_append.1 ht with h1 | h1
  · exact h t h1
  · rw [List.mem_singleton.1 h1]; exact hs
end Go.Proofs.YtfjkiemjmnnbkaaGreatDoor
