/-
  What is kept in the walk of scale.Truth: tables of rows, filled by a range over a function.
-/
import Derived.Test.YtfjkiemjmnnbkaaDoorTu
import Derived.Test.YtfjkiemjmnnbkaaDoorPl
namespace Go
open Go.RowKit
/-- A table: a block of slices, each of which reads as a row. -/
def TabAt {α : Type} (enc : α → List Value) (k : Nat) (W : World) (B : Nat) (t : TypeId) (n : Nat) (f : Nat → List α) : Prop :=
  ∃ C : List Value, LaysAs W B (.cells C.toArray t (0, 0)) ∧ C.length = n ∧ (∀ u ∈ C, ∃ q n c, u = .slice q n c) ∧ ∀ m, m < n → ∃ v, C[m]? = some v ∧ IsRow enc k W v (f m)
section
variable {α : Type} {enc : α → List Value} {k B n : Nat} {t : TypeId} {W W' : World} {f g : Nat → List α}
theorem TabAt.exts (h : TabAt enc k W B t n f) (hE : W.Exts W') : TabAt enc k W' B t n f := by
  obtain ⟨C, h1, h2, h3, h4⟩ := h
  exact ⟨C, h1.exts hE, h2, h3, fun m hm => by obtain ⟨v, e1, e2⟩ := h4 m hm; exact ⟨v, e1, e2.mono hE⟩⟩
theorem off_slices' {b : Nat} {C : List Value} (hb : LaysAs W b (.cells C.toArray t (0, 0))) (hC : ∀ u ∈ C, ∃ q n c, u = .slice q n c) {v : Value} {xs : List α} (h : IsRow enc k W v xs) (henc : ∀ x, ∃ u, (enc x)[0]? = some u ∧ ∀ q n c, u ≠ .slice q n c) : RowOff enc k W [b] v xs := by
  refine ⟨h, ?_⟩
  obtain ⟨p, b', o, cap, rfl, hm, hp, hc⟩ := h.ex
  rcases xs with _ | ⟨x, xs⟩
  · exact .inl rfl
  · refine .inr fun g hg e => ?_
    rw [List.mem_singleton.1 hg] at e
    obtain ⟨rfl, hl⟩ := hp (by simp)
    simp [Value.ownBlock] at e
    subst e
    obtain ⟨u, hu, hne⟩ := henc x
    have h1 := hc 0 x rfl 0 u hu
    unfold LaysAs at hb
    simp [World.cell?, hb] at h1
    obtain ⟨q, n, c, e⟩ := hC u (List.mem_of_getElem? h1)
    exact hne q n c e
theorem TabAt.put (henc : ∀ x, ∃ u, (enc x)[0]? = some u ∧ ∀ q n c, u ≠ .slice q n c) (h : TabAt enc k W B t n f) {i : Nat} (_hi : i < n) {v : Value} {l : List α} (hv : IsRow enc k W v l) : TabAt enc k (W.setCell ⟨B, i, none⟩ v) B t n (fun m => if m = i then l else f m) := by
  obtain ⟨C, h1, h2, h3, h4⟩ := h
  have hs : ∀ (u : Value) (l : List α), IsRow enc k W u l → IsRow enc k (W.setCell ⟨B, i, none⟩ v) u l := fun u l hu =>
    ((off_slices' h1 h3 hu henc).set (a := ⟨B, i, none⟩) (by simp) v).row
  obtain ⟨q, c, rfl⟩ := hv.len
  refine ⟨C.set i _, LaysAs.set h1 _, by simpa using h2, fun u hu => ?_, fun m hm => ?_⟩
  · rcases List.mem_or_eq_of_mem_set hu with h | rfl
    · exact h3 u h
    · exact ⟨_, _, _, rfl⟩
  · by_cases hjm : m = i
    · subst hjm
      exact ⟨_, List.getElem?_set_self (by omega), by dsimp only; rw [if_pos rfl]; exact hs _ _ hv⟩
    · obtain ⟨u, hu1, hu2⟩ := h4 m hm
      exact ⟨u, by rw [List.getElem?_set_ne (Ne.symm hjm)]; exact hu1, by dsimp only; rw [if_neg hjm]; exact hs _ _ hu2⟩
/-- A cell of another block of slices is written. -/
theorem TabAt.beside (henc : ∀ x, ∃ u, (enc x)[0]? = some u ∧ ∀ q n c, u ≠ .slice q n c) (h : TabAt enc k W B t n f) {B' i : Nat} {C' : List Value} {t' : TypeId} (hb : LaysAs W B' (.cells C'.toArray t' (0, 0))) (hC : ∀ u ∈ C', ∃ q n c, u = .slice q n c) (hne : B ≠ B') (v : Value) : TabAt enc k (W.setCell ⟨B', i, none⟩ v) B t n f := by
  obtain ⟨C, h1, h2, h3, h4⟩ := h
  refine ⟨C, (World.heap_set_other W _ v hne).trans h1, h2, h3, fun m hm => ?_⟩
  obtain ⟨u, hu1, hu2⟩ := h4 m hm
  exact ⟨u, hu1, ((off_slices' hb hC hu2 henc).set (a := ⟨B', i, none⟩) (by simp) v).row⟩
theorem TabAt.lays (h : TabAt enc k W B t n f) : ∃ C : List Value, LaysAs W B (.cells C.toArray t (0, 0)) ∧ (∀ u ∈ C, ∃ q n c, u = .slice q n c) := by
  obtain ⟨C, h1, _, h3, _⟩ := h; exact ⟨C, h1, h3⟩
theorem TabAt.cell (h : TabAt enc k W B t n f) {m : Nat} (hm : m < n) : ∃ q c, W.cell? ⟨B, m, none⟩ = some (.slice q (f m).length c) ∧ W.frozen? ⟨B, m, none⟩ = false ∧ IsRow enc k W (.slice q (f m).length c) (f m) := by
  obtain ⟨C, e1, _, _, e4⟩ := h
  obtain ⟨u, hu1, hu2⟩ := e4 m hm
  obtain ⟨q, c, rfl⟩ := hu2.len
  refine ⟨q, c, LaysAs.cell e1 m _ hu1, ?_, hu2⟩
  unfold LaysAs at e1
  simp [World.frozen?, e1]
theorem TabAt.congr (h : TabAt enc k W B t n f) (e : ∀ m, m < n → f m = g m) : TabAt enc k W B t n g := by
  obtain ⟨C, h1, h2, h3, h4⟩ := h
  exact ⟨C, h1, h2, h3, fun m hm => by rw [← e m hm]; exact h4 m hm⟩
theorem IsRow.own {v : Value} {xs : List α} (h : IsRow enc k W v xs) {row : Option Nat} (hg : W.grownBy W' row) (hrow : ∀ r, row = some r → ∃ o : Obj, W.heap[r]? = some o ∧ o.isCells = false) : IsRow enc k W' v xs := by
  obtain ⟨p, b, o, cap, rfl, hm, hp, hc⟩ := h.ex
  exact ⟨p, b, o, cap, rfl, hm, fun h0 => ⟨(hp h0).1, ⟨Nat.lt_of_lt_of_le (hp h0).2.lt hg.size⟩⟩, fun i x hx j u hu => cell_kept (hc i x hx j u hu) hg hrow⟩
theorem LaysAs.keep {C : Array Value} {fr : Nat × Nat} (h : LaysAs W B (.cells C t fr)) {row : Option Nat} (hg : W.grownBy W' row) (hrow : ∀ r, row = some r → ∃ o : Obj, W.heap[r]? = some o ∧ o.isCells = false) : LaysAs W' B (.cells C t fr) := by
  refine (hg.block B h.lt (fun e => ?_)).trans h
  obtain ⟨o, ho, hc⟩ := hrow B e.symm
  unfold LaysAs at h
  rw [h] at ho; cases ho; cases hc
theorem TabAt.own (h : TabAt enc k W B t n f) {row : Option Nat} (hg : W.grownBy W' row) (hrow : ∀ r, row = some r → ∃ o : Obj, W.heap[r]? = some o ∧ o.isCells = false) : TabAt enc k W' B t n f := by
  obtain ⟨C, h1, h2, h3, h4⟩ := h
  exact ⟨C, h1.keep hg hrow, h2, h3, fun m hm => by obtain ⟨v, e1, e2⟩ := h4 m hm; exact ⟨v, e1, e2.own hg hrow⟩⟩
end
/-- A slice of slices is made: 'make([][]T, n)'. -/
theorem run_make_tab {P : Program} (t e : TypeId) (E : ElemOf P t e (.slice none 0 0) 1 24) (n : Nat) (h : n ≤ 1000) (w : World) : (Instr.makeSlice t (.int .i64 (n : Int)) (.int .i64 (n : Int))).run P w = .ok (.slice (some ⟨w.heap.size, 0, none⟩) n n) (w.alloc (.cells (List.replicate n (Value.slice none 0 0)).toArray e)) := by
  obtain ⟨i, hi, hz0, hz1, hz2⟩ := info_parts E.inf
  have hr := run_make (P := P) (w := w) t e i _ E.und hi hz0 .i64 .i64 (n : Int) (n : Int) (by omega) (by omega) (by rw [hz2]; omega) (by omega)
  rw [Int.toNat_natCast] at hr
  have e2 : madeCells (Value.slice none 0 0).cells (n * 1) = (List.replicate n (Value.slice none 0 0)).toArray := by
    refine Array.ext (by simp [madeCells]) fun j h1 h2 => ?_
    simp [madeCells, Value.cells, Nat.mod_one]
  rw [hz1, e2] at hr
  exact hr
theorem TabAt.made {α : Type} {enc : α → List Value} {k n : Nat} {t : TypeId} (W : World) {B : Nat} (hB : B = W.heap.size) : TabAt enc k (W.alloc (.cells (List.replicate n (Value.slice none 0 0)).toArray t)) B t n (fun _ => []) := by
  refine ⟨List.replicate n (.slice none 0 0), laysAs_size W _ hB, by simp, fun u hu => ⟨none, 0, 0, List.eq_of_mem_replicate hu⟩, fun m hm => ⟨.slice none 0 0, by simp [hm], IsRow.nil _⟩⟩
end Go
namespace Go
open Go.RowKit
/-- A range over an iterator of pairs at the wide fence; the loop variables are slots. -/
theorem wpIn_range_pair {α : Type} {P : Program} {n : Nat} {g : Operand} {p1 p2 : Tmp} {assign body : Code} {Q : Exit → Act → World → Prop} {a : Act} {w : World}
    (h1 : 1 ≤ n) {gf : Nat} {lb : Array Value} (hg : a.eval g = .func (.func gf) #[] lb) (eg : ∀ args w, (callFunc gf args).run P w = .ok (.enter gf args) w)
    {encs : α → Array Value} {e1 e2 : α → Value} (henc : ∀ x, encs x = #[e1 x, e2 x]) {Kp : World → World → Prop} {S Sp : List α → Prop} {N : Nat} (hseq : SeqStopsK Fence.wide (n - 1) P gf lb encs Kp S Sp N w)
    (hKt : ∀ {A B C : World}, Kp A B → Kp B C → Kp A C) (hKb : ∀ (W : World) (l : Nat) (o o' : Obj), w.heap.size ≤ l → W.heap[l]? = some o → o.isCells = false → o.isWalk = false → Kp W (W.putObj l o'))
    (I : List α → World → Prop) (hI : OwnFrom w.heap.size I) (h0 : I [] w) (d : Tmp)
    (hassign : ∀ (l : Nat) (x : α) (W : World) (K : Act → World → Prop), K (Act.put { tmps := (a.tmps.setIfInBounds p1 (e1 x)).setIfInBounds p2 (e2 x), defers := [] } (some d) (e1 x)) W → assign.wpIn (Fence.wide.inRound l) (n - 1 - 1) P (Exit.then K (fun _ _ _ => False)) { tmps := (a.tmps.setIfInBounds p1 (e1 x)).setIfInBounds p2 (e2 x), defers := [] } W)
    (hKr : ∀ W, Kp W W)
    (hbody : ∀ (l : Nat) (pre : List α) (x : α) (W : World), w.heap.size ≤ l → I pre W → pre.length < N →
      body.wpIn (Fence.wide.inRound l) (n - 1 - 1) P (ownPostG w.heap.size Kp I (fun _ _ _ => False) (pre ++ [x]) W) (Act.put { tmps := (a.tmps.setIfInBounds p1 (e1 x)).setIfInBounds p2 (e2 x), defers := [] } (some d) (e1 x)) W)
    (hdone : ∀ (D : Nat) (xs : List α) (W : World), w.heap.size ≤ D → S xs → I xs W → W.heap[D]? = some (.deferred (some [])) → Q .normal { a with defers := { target := .collected D, args := #[] } :: a.defers } W) :
    (Code.rangeFunc g #[p1, p2] assign body).wpIn Fence.wide n P Q a w := by
  have hz : ∀ (x : α) (t : Array Value), ((#[p1, p2] : Array Tmp).zip (encs x)).foldl (fun t (p, v) => t.setIfInBounds p v) t = (t.setIfInBounds p1 (e1 x)).setIfInBounds p2 (e2 x) := fun x t => by rw [henc]; simp
  refine wpIn_rangeFunc_ownH rfl h1 hg trivial eg hseq hKt hKb (Below.refl _ _) (fun x => by rw [henc]; rfl) I (fun _ _ _ => False) hI (fun _ _ _ _ _ hs _ _ => hs) h0
    (fun x a' _ => a' = Act.put { tmps := (a.tmps.setIfInBounds p1 (e1 x)).setIfInBounds p2 (e2 x), defers := [] } (some d) (e1 x)) (fun x a' _ X Y row hs hg hr => hs) (fun l pre x W K hi hK => by rw [hz]; exact hassign l x W K (hK _ _ (KeepsOthers.refl W |>.from _) (hKr W) hi rfl)) ?_ hdone (fun D c pre W _ _ h _ => h.elim)
  rintro l pre x a' W hl _ hi rfl hlen
  exact hbody l pre x W hl hi hlen
end Go
