/-
  Several texts in one: see the heads of its parts.
-/
import Derived.Test.YtfjkiemjmnnbkaaGreatDoorPt
import Derived.Test.YtfjkiemjmnnbkaaGreatDoorInv
import Derived.Test.YtfjkiemjmnnbkaaGreatDoorTsA
import Derived.Test.YtfjkiemjmnnbkaaGreatDoorTk
import Derived.Test.YtfjkiemjmnnbkaaGreatDoorWd
import Derived.Test.YtfjkiemjmnnbkaaGreatDoorHp
import Derived.Test.YtfjkiemjmnnbkaaGreatDoorJk

/-
  Two gears under way, whose loads are appended one by one: how they lie in memory. For the law ScaleAgain.
-/
namespace Go.Proofs.YtfjkiemjmnnbkaaGreatDoor
open Go.RowKit Kr
set_option linter.unusedSimpArgs false

def emptyG : Gear := ⟨[], 0, 0, 0, [], [], 0, false⟩
def loadG (l : List Kr.Load) : Gear := ⟨l, 0, 0, 0, [], [], 0, false⟩
def agCells (v0 v1 : Value) : List Value := [v0, .int .i64 0, .int .i64 0, .int .i64 0, .slice none 0 0, .slice none 0 0, .int .i64 0, .bool false, v1, .int .i64 0, .int .i64 0, .int .i64 0, .slice none 0 0, .slice none 0 0, .int .i64 0, .bool false]
/-- A: the world ahead of the two gears. -/
structure AgAt (A W : World) (v0 v1 : Value) (l0 l1 : List Kr.Load) : Prop where
  ext : A.Exts W
  o : LaysAs W A.heap.size (.cells (agCells v0 v1).toArray 79 (0, 0))
  r0 : W.ownsRow (A.heap.size + 1) 63 2 v0 l0.length (l0.flatMap loadEnc)
  r1 : W.ownsRow (A.heap.size + 1) 63 2 v1 l1.length (l1.flatMap loadEnc)
  ne : ∀ b, v0.ownBlock = some b → v1.ownBlock ≠ some b
section
variable {A W W' : World} {v0 v1 v' : Value} {l0 l1 : List Kr.Load}
theorem AgAt.exts (h : AgAt A W v0 v1 l0 l1) (hE : W.Exts W') : AgAt A W' v0 v1 l0 l1 := ⟨h.ext.trans hE, h.o.exts hE, ownsRow_exts h.r0 hE, ownsRow_exts h.r1 hE, h.ne⟩
theorem AgAt.start (A : World) : AgAt A (A.alloc (.cells (agCells (.slice none 0 0) (.slice none 0 0)).toArray 79)) (.slice none 0 0) (.slice none 0 0) [] [] :=
  ⟨(World.Exts.refl A).alloc _, laysAs_size A _ rfl, World.ownsRow_nil _ _ _ _, World.ownsRow_nil _ _ _ _, fun b hb => by simp [Value.ownBlock] at hb⟩
theorem loadsEnc_snoc (l : List Kr.Load) (x : Kr.Load) : (l ++ [x]).flatMap loadEnc = l.flatMap loadEnc ++ [.int .i64 x.scale, .int .i64 x.shown] := by simp [loadEnc]
/-- A load was appended to the first gear's, and the slice is stored. -/
theorem AgAt.push0 {x : Kr.Load} (he : A.Exts W') (ho : LaysAs W' A.heap.size (.cells (agCells v0 v1).toArray 79 (0, 0))) (hr : W'.ownsRow (A.heap.size + 1) 63 2 v1 l1.length (l1.flatMap loadEnc)) (hown : W'.ownsRow (A.heap.size + 1) 63 2 v' (l0.length + 1) (l0.flatMap loadEnc ++ [.int .i64 x.scale, .int .i64 x.shown])) (hne : ∀ b, v1.ownBlock = some b → v'.ownBlock ≠ some b) :
    AgAt A (W'.setCell ⟨A.heap.size, 0, none⟩ v') v' v1 (l0 ++ [x]) l1 := by
  refine ⟨World.Exts.setCell he (Nat.le_refl _) _, LaysAs.set (i := 0) ho v', ?_, World.ownsRow.set hr (by dsimp only; omega) _, fun b hb e => hne b e hb⟩
  rw [loadsEnc_snoc, List.length_append]
  exact World.ownsRow.set hown (by dsimp only; omega) _
theorem AgAt.push1 {x : Kr.Load} (he : A.Exts W') (ho : LaysAs W' A.heap.size (.cells (agCells v0 v1).toArray 79 (0, 0))) (hr : W'.ownsRow (A.heap.size + 1) 63 2 v0 l0.length (l0.flatMap loadEnc)) (hown : W'.ownsRow (A.heap.size + 1) 63 2 v' (l1.length + 1) (l1.flatMap loadEnc ++ [.int .i64 x.scale, .int .i64 x.shown])) (hne : ∀ b, v0.ownBlock = some b → v'.ownBlock ≠ some b) :
    AgAt A (W'.setCell ⟨A.heap.size, 8, none⟩ v') v0 v' l0 (l1 ++ [x]) := by
  refine ⟨World.Exts.setCell he (Nat.le_refl _) _, LaysAs.set (i := 8) ho v', World.ownsRow.set hr (by dsimp only; omega) _, ?_, hne⟩
  rw [loadsEnc_snoc, List.length_append]
  exact World.ownsRow.set hown (by dsimp only; omega) _

/-- What stays while one of the two grows: the array, the other row. -/
structure AgG (A : World) (c : List Value) (vx vo : Value) (lo : List Kr.Load) (W : World) : Prop where
  ext : A.Exts W
  o : LaysAs W A.heap.size (.cells c.toArray 79 (0, 0))
  ro : W.ownsRow (A.heap.size + 1) 63 2 vo lo.length (lo.flatMap loadEnc)
  sx : ∀ b, vx.ownBlock = some b → b < W.heap.size
theorem AgG.exts {c : List Value} {vx vo : Value} {lo : List Kr.Load} (h : AgG A c vx vo lo W) (hE : W.Exts W') : AgG A c vx vo lo W' := ⟨h.ext.trans hE, h.o.exts hE, ownsRow_exts h.ro hE, fun b hb => Nat.lt_of_lt_of_le (h.sx b hb) hE.size⟩
/-- What is known of a region's operations: the number that is shown, the load, the slice of it, the longer slice. -/
def AgPhi (A : World) (ci cb cs ca : Nat) (vx vo : Value) (lx : List Kr.Load) (x : Kr.Load) (c : Nat) (v : Value) (W : World) : Prop :=
  (c = ci → v = .int .i64 x.shown) ∧ (c = cb → v = .agg #[.int .i64 x.scale, .int .i64 x.shown]) ∧
  (c = cs → ∃ nb, v = .slice (some ⟨nb, 0, none⟩) 1 1 ∧ LaysAs W nb (.cells [.int .i64 x.scale, .int .i64 x.shown].toArray 63 (0, 0)) ∧ vx.ownBlock ≠ some nb) ∧
  (c = ca → W.ownsRow (A.heap.size + 1) 63 2 v (lx.length + 1) (lx.flatMap loadEnc ++ [.int .i64 x.scale, .int .i64 x.shown]) ∧ ∀ b, vo.ownBlock = some b → v.ownBlock ≠ some b)
theorem AgPhi.exts {ci cb cs ca c : Nat} {vx vo v : Value} {lx : List Kr.Load} {x : Kr.Load} (h : AgPhi A ci cb cs ca vx vo lx x c v W) (hE : W.Exts W') : AgPhi A ci cb cs ca vx vo lx x c v W' := by
  obtain ⟨h1, h2, h3, h4⟩ := h
  exact ⟨h1, h2, fun e => by obtain ⟨nb, k1, k2, k3⟩ := h3 e; exact ⟨nb, k1, k2.exts hE, k3⟩, fun e => ⟨ownsRow_exts (h4 e).1 hE, (h4 e).2⟩⟩
/-- What the growing row's condition is: as it was, until the append has run. -/
def AgInv (A : World) (cc : List Value) (vx vo : Value) (lx lo : List Kr.Load) (ca : Nat) (listed : Array Bool) (W : World) : Prop :=
  AgG A cc vx vo lo W ∧ (listed.getD ca true = false → W.ownsRow (A.heap.size + 1) 63 2 vx lx.length (lx.flatMap loadEnc))
theorem unlisted {listed : Array Bool} {c ca : Nat} (h : c ≠ ca) (e : (listed.setIfInBounds c true).getD ca true = false) : listed.getD ca true = false := by rw [← e]; exact (listed_set (Ne.symm h)).symm
section
variable {ci cb cs ca : Nat} {cc : List Value} {vx vo v : Value} {lx lo : List Kr.Load} {x : Kr.Load} {listed : Array Bool}
theorem AgInv.exts {c : Nat} (h : AgInv A cc vx vo lx lo ca listed W) (hc : c ≠ ca) (hE : W.Exts W') : AgInv A cc vx vo lx lo ca (listed.setIfInBounds c true) W' := ⟨h.1.exts hE, fun e => ownsRow_exts (h.2 (unlisted hc e)) hE⟩
theorem AgInv.same {c : Nat} (h : AgInv A cc vx vo lx lo ca listed W) (hc : c ≠ ca) : AgInv A cc vx vo lx lo ca (listed.setIfInBounds c true) W := ⟨h.1, fun e => h.2 (unlisted hc e)⟩
theorem AgInv.start (h : AgG A cc vx vo lo W) (hr : W.ownsRow (A.heap.size + 1) 63 2 vx lx.length (lx.flatMap loadEnc)) : AgInv A cc vx vo lx lo ca listed W.drew := ⟨h.exts (World.Exts.refl W).drew, fun _ => ownsRow_exts hr (World.Exts.refl W).drew⟩
/-- The append, in such a region. -/
theorem AgInv.appended {v' : Value} (h : AgInv A cc vx vo lx lo ca listed W) (hun : listed.getD ca true = false) (hne : ∀ b, vo.ownBlock = some b → vx.ownBlock ≠ some b) (hown : W'.ownsRow (A.heap.size + 1) 63 2 v' (lx.length + 1) (lx.flatMap loadEnc ++ [.int .i64 x.scale, .int .i64 x.shown])) (happ : AppendedW W W' vx v' (A.heap.size + 1)) (hsz : ca < listed.size) (hi : ci ≠ ca) (hb : cb ≠ ca) (hs : cs ≠ ca) :
    AgInv A cc vx vo lx lo ca (listed.setIfInBounds ca true) W' ∧ AgPhi A ci cb cs ca vx vo lx x ca v' W' ∧ ∀ c u, listed.getD c true = true → AgPhi A ci cb cs ca vx vo lx x c u W → AgPhi A ci cb cs ca vx vo lx x c u W' := by
  have hr := h.2 hun
  have hbs := ownsRow_beside h.1.ro hne happ
  refine ⟨⟨⟨happ.exts A h.1.ext (Nat.le_succ _), (h.1.o.appended happ (fun e => by have := (hr.lt _ e).1; omega)).1, hbs.1, fun b hb => Nat.lt_of_lt_of_le (h.1.sx b hb) happ.size⟩, fun e => ?_⟩, ⟨fun e => absurd e.symm hi, fun e => absurd e.symm hb, fun e => absurd e.symm hs, fun _ => ⟨hown, hbs.2⟩⟩, fun c u hl hΦ => ?_⟩
  · rw [getD_set_same true hsz] at e; cases e
  · obtain ⟨h1, h2, h3, h4⟩ := hΦ
    refine ⟨h1, h2, fun e => ?_, fun e => by subst e; rw [hun] at hl; cases hl⟩
    obtain ⟨nb, k1, k2, k3⟩ := h3 e
    exact ⟨nb, k1, (k2.appended happ k3).1, k3⟩
end
end
theorem gives_load {o : Oper} {ρ : Operand → Value} {W : World} {R : Value → World → Prop} {x y : Operand} {a b : Int} (ho : o.op = .build 63 #[(0, x), (1, y)]) (hx : ρ x = .int .i64 a) (hy : ρ y = .int .i64 b) (h : R (.agg #[.int .i64 a, .int .i64 b]) W) : o.givesI Tryz.prog ρ W R := by
  refine .inl (.inr ⟨_, _, ?_, h⟩)
  unfold execOp
  simp only [ho, List.map_toArray, List.map_cons, List.map_nil, hx, hy]
  kernel_rfl
theorem gives_loads {o : Oper} {ρ : Operand → Value} {W : World} {R : Value → World → Prop} {x : Operand} {a b : Int} (ho : o.op = .buildSlice 48 1 #[(0, x)]) (hx : ρ x = .agg #[.int .i64 a, .int .i64 b]) (h : R (.slice (some ⟨W.heap.size, 0, none⟩) 1 1) (W.alloc (.cells #[.int .i64 a, .int .i64 b] 63))) : o.givesI Tryz.prog ρ W R := by
  refine .inl (.inr ⟨_, _, ?_, h⟩)
  unfold execOp
  simp only [ho, List.map_toArray, List.map_cons, List.map_nil, hx]
  kernel_rfl
end Go.Proofs.YtfjkiemjmnnbkaaGreatDoor

/-
  What two gears under way pass, told twice: the plain law behind ScaleAgain.
-/
namespace Go.Proofs.YtfjkiemjmnnbkaaGreatDoor
open Go.RowKit Kr
set_option linter.unusedSimpArgs false

/-- A weight by a choice; on which scale it is weighed. -/
def wAt (ws : List Int) (i : Nat) : Int := ws.getD i 0 % 1000001
def kAt (by_ : List Int) (n x i : Nat) : Nat := (chooseL by_ (8 + 2 * i + x) % (n : Int)).toNat
def psx (by_ ws : List Int) (n x m : Nat) : List (Nat × Int) := (List.range m).map fun i => (kAt by_ n x i, wAt ws i)
def ldx (D : Drawn) (by_ ws : List Int) (x m : Nat) : List Kr.Load := (psx by_ ws D.length x m).map (loadBy D)
def sumW (ws : List Int) (m : Nat) : Int := ((List.range m).map (wAt ws)).sum
theorem wAt_bd {ws : List Int} {i : Nat} : 0 ≤ wAt ws i ∧ wAt ws i ≤ 1000000 := by unfold wAt; omega
theorem sumW_succ (ws : List Int) (m : Nat) : sumW ws (m + 1) = sumW ws m + wAt ws m := by unfold sumW; rw [List.range_succ]; simp
theorem sumW_bd (ws : List Int) : ∀ m, 0 ≤ sumW ws m ∧ sumW ws m ≤ 1000000 * m
  | 0 => by simp [sumW]
  | m + 1 => by have h := sumW_bd ws m; have h1 := wAt_bd (ws := ws) (i := m); rw [sumW_succ]; omega
theorem kAt_lt {by_ : List Int} {n x i : Nat} (h : 0 < n) : kAt by_ n x i < n := by
  unfold kAt
  have h1 := Int.emod_nonneg (chooseL by_ (8 + 2 * i + x)) (show (n : Int) ≠ 0 by omega)
  have h2 := Int.emod_lt_of_pos (chooseL by_ (8 + 2 * i + x)) (show 0 < (n : Int) by omega)
  omega
theorem kAt_int {by_ : List Int} {n x i : Nat} (h : 0 < n) : chooseL by_ (8 + 2 * i + x) % (n : Int) = (kAt by_ n x i : Int) := by
  unfold kAt
  have h1 := Int.emod_nonneg (chooseL by_ (8 + 2 * i + x)) (show (n : Int) ≠ 0 by omega)
  omega
theorem ldx_succ (D : Drawn) (by_ ws : List Int) (x m : Nat) : ldx D by_ ws x (m + 1) = ldx D by_ ws x m ++ [loadBy D (kAt by_ D.length x m, wAt ws m)] := by unfold ldx psx; rw [List.range_succ]; simp
theorem ldx_len (D : Drawn) (by_ ws : List Int) (x m : Nat) : (ldx D by_ ws x m).length = m := by unfold ldx psx; simp
theorem psx_snd (by_ ws : List Int) (n x m : Nat) : ((psx by_ ws n x m).map Prod.snd).sum = sumW ws m := by unfold psx sumW; rw [List.map_map]; rfl
theorem ag_ps {by_ ws : List Int} {n x m : Nat} (h : 0 < n) : ∀ p ∈ psx by_ ws n x m, p.1 < n ∧ 0 ≤ p.2 ∧ p.2 ≤ 1000000 := by
  intro p hp
  unfold psx at hp
  obtain ⟨i, _, rfl⟩ := List.mem_map.1 hp
  exact ⟨kAt_lt h, wAt_bd⟩
theorem ag_bare (l : List Kr.Load) : bare (loadG l) = true := by simp [bare, loadG, inb, inAll]
theorem ag_hard (l : List Kr.Load) : (hard (loadG l)).2 = 0 := by
  unfold hard
  rw [if_pos (ag_bare l)]
  simp [loadG, hardOf]
theorem ag_check {D : Drawn} (h : bayOk (D.map Prod.fst) = true) (ht : ∀ x ∈ D, TuneOk x.1 x.2) (hD : 0 < D.length) (by_ ws : List Int) (x : Nat) {M : Nat} (hM : M ≤ 6) :
    check (drawB D) (loadG (ldx D by_ ws x M)) = 0 ∧ has (totals (drawB D) (loadG (ldx D by_ ws x M))) (sumW ws M) := by
  have hl : (psx by_ ws D.length x M).length ≤ 6 := by unfold psx; simpa using hM
  refine ⟨draw_check h ht rfl (ag_ps hD) hl (ag_bare _), ?_⟩
  have := draw_has h ht (g := loadG (ldx D by_ ws x M)) rfl (ag_ps hD) hl (ag_bare _)
  rw [psx_snd] at this
  simpa [loadG] using this
theorem ag_all {D : Drawn} (h : bayOk (D.map Prod.fst) = true) (ht : ∀ x ∈ D, TuneOk x.1 x.2) (hD : 0 < D.length) (by_ ws : List Int) {M : Nat} (hM : M ≤ 6) {n : Norm} (hn : normB n = true) :
    ∃ (K S m : Int) (rest : List Int), againR (drawB D) (loadG (ldx D by_ ws 0 M)) (loadG (ldx D by_ ws 1 M)) n = (K, 0) ∧ againR (drawB D) (loadG (ldx D by_ ws 1 M)) (loadG (ldx D by_ ws 0 M)) n = (K, 0) ∧ againR (drawB D) (loadG (ldx D by_ ws 0 M)) (loadG (ldx D by_ ws 0 M)) n = (S, 0) ∧
      judgeR (drawB D) (loadG (ldx D by_ ws 0 M)) n = ((S :: rest, m), 0) ∧ rest.length = 4 ∧ agrees K (inb n.total.lo n.total.hi (sumW ws M)) = true ∧ (S = 1 ∨ K = S) ∧ 0 ≤ K := by
  obtain ⟨c0, t0⟩ := ag_check h ht hD by_ ws 0 hM
  obtain ⟨c1, t1⟩ := ag_check h ht hD by_ ws 1 hM
  obtain ⟨e1, e2, e3, e4, e5, e6⟩ := again_laws c0 c1 hn t0 t1
  have hne : totals (drawB D) (loadG (ldx D by_ ws 0 M)) ≠ [] := fun e => by rw [e] at t0; exact has_nil _ t0
  have hk : againR (drawB D) (loadG (ldx D by_ ws 0 M)) (loadG (ldx D by_ ws 1 M)) n = ((againR (drawB D) (loadG (ldx D by_ ws 0 M)) (loadG (ldx D by_ ws 1 M)) n).1, 0) := Prod.ext rfl e1
  refine ⟨_, _, _, _, hk, Prod.ext e3.symm e2, e5, judge_all c0 hn hne (ag_hard _), rfl, e4, e6, ?_⟩
  rw [again_of c0 c1 hn t0 t1]
  exact (knownR_range _ _).1
theorem ag_gear {D : Drawn} (h : bayOk (D.map Prod.fst) = true) (hD : 0 < D.length) (by_ ws : List Int) (x M : Nat) {W : World} {base : Nat} {v : Value} (hr : W.ownsRow base 63 2 v (ldx D by_ ws x M).length ((ldx D by_ ws x M).flatMap loadEnc)) :
    GearAt W (loadG (ldx D by_ ws x M), v, .slice none 0 0, .slice none 0 0) := by
  refine ⟨IsRow.of_owns hr (fun _ _ => rfl), IsRow.nil _, IsRow.nil _, ⟨by simp [loadG], by simp [loadG]⟩, fun l hl => ?_⟩
  obtain ⟨p, hp, rfl⟩ := List.mem_map.1 hl
  obtain ⟨y, hy⟩ := some_of_lt (ag_ps hD p hp).1
  have hb := right_bounds (bayOk_right h y.1 (List.mem_map.2 ⟨y, List.mem_of_getElem? hy, rfl⟩))
  have e : (loadBy D p).scale = y.1.id := by unfold loadBy; rw [hy]
  rw [e]
  have := hb.1
  have h1 : IntKind.i64.min = -9223372036854775808 := by decide
  have h2 : IntKind.i64.max = 9223372036854775807 := by decide
  simp [Lit.wf]
  omega
end Go.Proofs.YtfjkiemjmnnbkaaGreatDoor
