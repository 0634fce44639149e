/-
  What is kept in the walks of Truth.
-/
import Derived.Test.YtfjkiemjmnnbkaaDoorTq
import Derived.Test.YtfjkiemjmnnbkaaDoorPl
import Derived.Test.YtfjkiemjmnnbkaaDoorBt
namespace Go
open Go.RowKit
/-- A slice of one slice is made: among operations of which a property is known. -/
theorem gives_one {P : Program} {o : Oper} {ρ : Operand → Value} {W : World} {R : Value → World → Prop} (t e : TypeId) (x : Operand) (ho : o.op = .buildSlice t 1 #[(0, x)]) (ht : P.underlying t = some (.slice e)) (hs : ∀ w, (sizeOf e).run P w = .ok 1 w) (hz : ∀ w, (zeroValue e).run P w = .ok (.slice none 0 0) w)
    {q : Option Addr} {n c : Nat} (hv : ρ x = .slice q n c) (h : R (.slice (some ⟨W.heap.size, 0, none⟩) 1 1) (W.alloc (.cells #[.slice q n c] e))) : o.gives P ρ W R := by
  refine .inr ⟨_, _, ?_, h⟩
  unfold execOp
  simp [ho, hv, Instr.buildSlice, run_underlying ht, hs, hz, Result.andThen, go_sem]
end Go
namespace Go.Proofs.YtfjkiemjmnnbkaaDoor
open Go.RowKit Kr
set_option linter.unusedSimpArgs false

def truthOut : Option (List Part × List Int) → (List Part × List Int) × Int
  | some x => (x, 0)
  | none => (([], []), 6)
def truthR (b : List Scale) (g : Gear) (total : Int) : (List Part × List Int) × Int :=
  if check b g = 0 then (if inb 0 10000000 total then truthOut (truthOf (used b g.loads) g.loads (total - g.added)) else (([], []), 6)) else (([], []), check b g)
/-- Slices of parts: each a row. -/
abbrev PV := List Part × Value
structure PartsAt (w : World) (v : Value) (l : List PV) : Prop where
  row : IsRow (fun x : PV => [x.2]) 1 w v l
  each : ∀ x ∈ l, IsRow (fun t : Kr.Part => [.int .i64 t.gain, .int .i64 t.off, .int .i64 t.sum.lo, .int .i64 t.sum.hi]) 4 w x.2 x.1
def pvCs (l : List PV) : List Value := l.flatMap fun x => [x.2]
theorem elem_spanSl : ElemOf Tryd.prog 103 49 (.slice none 0 0) 1 24 := ⟨Tryd.underlying103, by kernel_rfl, rfl, by decide, by decide⟩
def nils (n : Nat) : List Value := List.replicate n (.slice none 0 0)
theorem run_make_nils (n : Nat) (h : n ≤ 1000) (w : World) : (Instr.makeSlice 103 (.int .i64 ((n : Int) + 1)) (.int .i64 ((n : Int) + 1))).run Tryd.prog w = .ok (.slice (some ⟨w.heap.size, 0, none⟩) (n + 1) (n + 1)) (w.alloc (.cells (nils (n + 1)).toArray 49)) := by
  have E := elem_spanSl
  obtain ⟨i, hi, hz0, hz1, hz2⟩ := info_parts E.inf
  have hr := run_make (P := Tryd.prog) (w := w) 103 49 i _ E.und hi hz0 .i64 .i64 ((n : Int) + 1) ((n : Int) + 1) (by omega) (by omega) (by rw [hz2]; omega) (by omega)
  have e1 : ((n : Int) + 1).toNat = n + 1 := by omega
  rw [e1] at hr
  have e2 : madeCells (Value.slice none 0 0).cells ((n + 1) * 1) = (nils (n + 1)).toArray := by
    refine Array.ext (by simp [madeCells, nils]) fun j h1 h2 => ?_
    simp [madeCells, nils, Value.cells, Nat.mod_one]
  rw [hz1, e2] at hr
  exact hr
theorem ownsRow_beside {W W' : World} {base base2 e size n : Nat} {v out out' : Value} {xs : List Value} (h : W.ownsRow base2 e size v n xs) (hne : ∀ b, v.ownBlock = some b → out.ownBlock ≠ some b) (ha : AppendedW W W' out out' base) :
    W'.ownsRow base2 e size v n xs ∧ ∀ b, v.ownBlock = some b → out'.ownBlock ≠ some b := by
  refine ⟨⟨h.1, h.2.imp id ?_⟩, fun b hb => ha.beside b (h.lt b hb).2 (hne b hb)⟩
  rintro ⟨g, cap, cur, rfl, h1, h2, r⟩
  exact ⟨g, cap, cur, rfl, h1, by rw [ha.block g (Array.getElem?_eq_some_iff.1 h2).1 (fun e => hne g rfl e.symm)]; exact h2, r⟩

theorem rest_step {U : List Scale} {ls : List Load} {j : Nat} {s : Scale} (hs : U[j]? = some s) (hr : right s = true) (h6 : ls.length ≤ 6) (hn : U.length ≤ 4) :
    PlusOk (sums (parts s ls)) (restOf ((U.map fun s => parts s ls).drop (j + 1))) ∧ restOf ((U.map fun s => parts s ls).drop j) = plus (sums (parts s ls)) (restOf ((U.map fun s => parts s ls).drop (j + 1))) := by
  have hg := parts_good s ls
  have hnn := sums_neat hg
  have hw := sums_within hg
  have hlen : (sums (parts s ls)).length ≤ 4221 := Nat.le_trans (merged_len _) (by rw [List.length_map]; exact parts_len ls hr)
  have hga : GoodAll ls.length ((U.map fun s => parts s ls).drop (j + 1)) := fun p hp => goodAll U ls p (List.mem_of_mem_drop hp)
  have ho := restOf_ok hga
  have hdl : ((U.map fun s => parts s ls).drop (j + 1)).length ≤ 4 := by rw [List.length_drop, List.length_map]; omega
  have hb : 1000000 * (ls.length : Int) * (((U.map fun s => parts s ls).drop (j + 1)).length : Int) ≤ 24000000 := by
    have h1 : (ls.length : Int) * (((U.map fun s => parts s ls).drop (j + 1)).length : Int) ≤ 6 * 4 := by
      have := Nat.mul_le_mul h6 hdl
      omega
    rw [Int.mul_assoc]; omega
  have hnon : (0 : Int) ≤ 1000000 * (ls.length : Int) * (((U.map fun s => parts s ls).drop (j + 1)).length : Int) := Int.mul_nonneg (by omega) (by omega)
  have hrl := neat_len ho.1 ho.2 (by omega)
  refine ⟨⟨hnn.1, ho.1.1, within_le hw (by omega), within_le ho.2 (by omega), ?_⟩, ?_⟩
  · have h2 : (restOf ((U.map fun s => parts s ls).drop (j + 1))).length ≤ 24000001 := by omega
    calc _ ≤ 4221 * 24000001 := Nat.mul_le_mul hlen h2
      _ ≤ 1000000000000 := by decide
  · obtain ⟨hj, e⟩ := List.getElem?_eq_some_iff.1 hs
    rw [List.drop_eq_getElem_cons (by simpa using hj)]
    simp only [List.getElem_map, e]
    rfl
def RestOne (ps : List Part) (r : List Span) (c : Nat) (W : World) (v : Value) : Prop := (c = 6 → IsRow (fun t : Kr.Span => [.int .i64 t.lo, .int .i64 t.hi]) 2 W v (sums ps)) ∧ (c = 12 → IsRow (fun t : Kr.Span => [.int .i64 t.lo, .int .i64 t.hi]) 2 W v (plus (sums ps) r))
theorem RestOne.mono {ps : List Part} {r : List Span} {c : Nat} {W W' : World} {v : Value} (h : RestOne ps r c W v) (hE : W.Exts W') : RestOne ps r c W' v := ⟨fun e => (h.1 e).mono hE, fun e => (h.2 e).mono hE⟩
/-- 'rest': a block of slices of spans, from j on what the scales from there on can have together. -/
def RestAt (PS : List (List Part)) (B j : Nat) (W : World) : Prop :=
  ∃ C : List Value, LaysAs W B (.cells C.toArray 49 (0, 0)) ∧ C.length = PS.length + 1 ∧ (∀ u ∈ C, ∃ q n c, u = .slice q n c) ∧ ∀ m, j ≤ m → m ≤ PS.length → ∃ v, C[m]? = some v ∧ IsRow (fun t : Kr.Span => [.int .i64 t.lo, .int .i64 t.hi]) 2 W v (restOf (PS.drop m))
/-- A row of numbers does not lie in a block of slices. -/
theorem off_slices {α : Type} {enc : α → List Value} {k b : Nat} {C : List Value} {t : TypeId} {W : World} {v : Value} {xs : List α} (hb : LaysAs W b (.cells C.toArray t (0, 0))) (hC : ∀ u ∈ C, ∃ q n c, u = .slice q n c) (h : IsRow enc k W v xs) (henc : ∀ x, ∃ u, (enc x)[0]? = some u ∧ ∀ q n c, u ≠ .slice q n c) : RowOff enc k W [b] v xs := by
  refine ⟨h, ?_⟩
  obtain ⟨p, b', o, cap, rfl, hm, hp, hc⟩ := h.ex
  rcases xs with _ | ⟨x, xs⟩
  · exact .inl rfl
  · refine .inr fun g hg e => ?_
    rw [List.mem_singleton.1 hg] at e
    obtain ⟨rfl, hl⟩ := hp (by simp)
    simp [Value.ownBlock] at e
    subst e
    obtain ⟨u, hu, hne⟩ := henc x
    have h1 := hc 0 x rfl 0 u hu
    unfold LaysAs at hb
    simp [World.cell?, hb] at h1
    obtain ⟨q, n, c, e⟩ := hC u (List.mem_of_getElem? h1)
    exact hne q n c e
/-- One cell of it is written: the row of what is had from one scale more on. -/
theorem RestAt.put {PS : List (List Part)} {B j : Nat} {W : World} {v : Value} (h : RestAt PS B (j + 1) W) (hj : j ≤ PS.length) (hv : IsRow (fun t : Kr.Span => [.int .i64 t.lo, .int .i64 t.hi]) 2 W v (restOf (PS.drop j))) : RestAt PS B j (W.setCell ⟨B, j, none⟩ v) := by
  obtain ⟨C, h1, h2, h3, h4⟩ := h
  have hs : ∀ (u : Value) (l : List Span), IsRow (fun t : Kr.Span => [.int .i64 t.lo, .int .i64 t.hi]) 2 W u l → IsRow (fun t : Kr.Span => [.int .i64 t.lo, .int .i64 t.hi]) 2 (W.setCell ⟨B, j, none⟩ v) u l := fun u l hu =>
    ((off_slices h1 h3 hu (fun x => ⟨_, rfl, by intro q n c h; cases h⟩)).set (a := ⟨B, j, none⟩) (by simp) v).row
  obtain ⟨q, c, rfl⟩ := hv.len
  refine ⟨C.set j _, LaysAs.set h1 _, by simpa using h2, fun u hu => ?_, fun m hm1 hm2 => ?_⟩
  · rcases List.mem_or_eq_of_mem_set hu with h | rfl
    · exact h3 u h
    · exact ⟨_, _, _, rfl⟩
  · by_cases hjm : j = m
    · subst hjm
      exact ⟨_, List.getElem?_set_self (by omega), hs _ _ hv⟩
    · obtain ⟨u, hu1, hu2⟩ := h4 m (by omega) hm2
      exact ⟨u, by rw [List.getElem?_set_ne hjm]; exact hu1, hs _ _ hu2⟩
theorem rest_start (PS : List (List Part)) (W : World) (n : Nat) (hn : n = PS.length) : RestAt PS W.heap.size n ((W.alloc (.cells ((nils (n + 1)).set n (.slice (some ⟨W.heap.size + 1, 0, none⟩) 1 1)).toArray 49)).alloc (.cells #[.int .i64 0, .int .i64 0] 25)) := by
  subst hn
  refine ⟨_, LaysAs.exts (laysAs_size W _ rfl) exq, by simp [nils], fun u hu => ?_, fun m hm1 hm2 => ?_⟩
  · rcases List.mem_or_eq_of_mem_set hu with h | rfl
    · exact ⟨none, 0, 0, List.eq_of_mem_replicate h⟩
    · exact ⟨_, _, _, rfl⟩
  · obtain rfl : m = PS.length := by omega
    refine ⟨_, List.getElem?_set_self (by simp [nils]), ?_⟩
    rw [List.drop_length]
    exact one_span_row _ 0 (by simp)
theorem RestAt.exts {PS : List (List Part)} {B j : Nat} {W W' : World} (h : RestAt PS B j W) (hE : W.Exts W') : RestAt PS B j W' := by
  obtain ⟨C, h1, h2, h3, h4⟩ := h
  exact ⟨C, h1.exts hE, h2, h3, fun m hm1 hm2 => by obtain ⟨u, hu1, hu2⟩ := h4 m hm1 hm2; exact ⟨u, hu1, hu2.mono hE⟩⟩
theorem RestAt.cell {PS : List (List Part)} {B j : Nat} {W : World} (h : RestAt PS B j W) {m : Nat} (h1 : j ≤ m) (h2 : m ≤ PS.length) : ∃ q c, W.cell? ⟨B, m, none⟩ = some (.slice q (restOf (PS.drop m)).length c) ∧ IsRow (fun t : Kr.Span => [.int .i64 t.lo, .int .i64 t.hi]) 2 W (.slice q (restOf (PS.drop m)).length c) (restOf (PS.drop m)) := by
  obtain ⟨C, e1, _, _, e4⟩ := h
  obtain ⟨u, hu1, hu2⟩ := e4 m h1 h2
  obtain ⟨q, c, rfl⟩ := hu2.len
  exact ⟨q, c, LaysAs.cell e1 m _ hu1, hu2⟩
theorem RestAt.old {PS : List (List Part)} {B j : Nat} {W : World} (h : RestAt PS B j W) {m : Nat} (h2 : m ≤ PS.length) : (∃ q n c, W.cell? ⟨B, m, none⟩ = some (.slice q n c)) ∧ W.frozen? ⟨B, m, none⟩ = false := by
  obtain ⟨C, e1, e2, e3, _⟩ := h
  have hm : m < C.length := by omega
  obtain ⟨q, n, c, e⟩ := e3 C[m] (List.getElem_mem hm)
  refine ⟨⟨q, n, c, LaysAs.cell e1 m _ (by rw [List.getElem?_eq_getElem hm, e])⟩, ?_⟩
  unfold LaysAs at e1
  simp [World.frozen?, e1]

/-- Pairs: gain and offset. -/
def pairCs (l : List Part) : List Value := l.flatMap fun q => [.int .i64 q.gain, .int .i64 q.off]
theorem pairCs_snoc (l : List Part) (q : Part) : pairCs (l ++ [q]) = pairCs l ++ [.int .i64 q.gain, .int .i64 q.off] := by simp [pairCs]
theorem elem_pair : ElemOf Tryd.prog 62 74 (.agg #[.int .i64 0, .int .i64 0]) 2 16 := ⟨Tryd.underlying62, by kernel_rfl, rfl, by decide, by decide⟩
theorem one_pair (a b : Int) : ∀ u ∈ ([.int .i64 a, .int .i64 b] : List Value), u.oneCell' = true := by
  intro u hu; simp at hu; rcases hu with rfl | rfl <;> rfl
theorem owns_off {W : World} {base e size n : Nat} {v : Value} {xs : List Value} (h : W.ownsRow base e size v n xs) {b : Nat} (hb : b < base) : v.ownBlock ≠ some b := fun e => by have := (h.lt b e).1; omega
theorem laysAs_other {w : World} {b : Nat} {ob : Obj} (h : LaysAs w b ob) {a : Addr} (ha : b ≠ a.block) (u : Value) : LaysAs (w.setCell a u) b ob := (World.heap_set_other w a u ha).trans h
/-- The greedy choice under way: what is left, and the tunes. -/
structure GrAt (B : Nat) (V W : World) (ch : List Part) (left : Span) (vt : Value) : Prop where
  ext : V.Exts W
  l : LaysAs W B (.cells [.int .i64 left.lo, .int .i64 left.hi].toArray 25 (0, 0))
  o : LaysAs W (B + 1) (.cells [vt, .slice none 0 0].toArray 64 (0, 0))
  row : W.ownsRow (B + 2) 74 2 vt ch.length (pairCs ch)
theorem GrAt.exts {B : Nat} {V W W' : World} {ch : List Part} {left : Span} {vt : Value} (h : GrAt B V W ch left vt) (hE : W.Exts W') : GrAt B V W' ch left vt := ⟨h.ext.trans hE, h.l.exts hE, h.o.exts hE, ownsRow_exts h.row hE⟩
theorem GrAt.cells {B : Nat} {V W : World} {ch : List Part} {left : Span} {vt : Value} (h : GrAt B V W ch left vt) : W.cell? ⟨B, 0, none⟩ = some (.int .i64 left.lo) ∧ W.cell? ⟨B, 1, none⟩ = some (.int .i64 left.hi) ∧ W.cell? ⟨B + 1, 0, none⟩ = some vt ∧ W.cell? ⟨B + 1, 1, none⟩ = some (.slice none 0 0) ∧
    W.frozen? ⟨B, 0, none⟩ = false ∧ W.frozen? ⟨B, 1, none⟩ = false ∧ W.frozen? ⟨B + 1, 0, none⟩ = false ∧ W.frozen? ⟨B + 1, 1, none⟩ = false := by
  have hl := h.l
  have ho := h.o
  unfold LaysAs at hl ho
  exact ⟨LaysAs.cell h.l 0 _ rfl, LaysAs.cell h.l 1 _ rfl, LaysAs.cell h.o 0 _ rfl, LaysAs.cell h.o 1 _ rfl, by simp [World.frozen?, hl], by simp [World.frozen?, hl], by simp [World.frozen?, ho], by simp [World.frozen?, ho]⟩
/-- What is left is written anew. -/
theorem GrAt.left {B : Nat} {V W : World} {ch : List Part} {left left' : Span} {vt : Value} (hB : V.heap.size ≤ B) (h : GrAt B V W ch left vt) : GrAt B V ((W.setCell ⟨B, 0, none⟩ (.int .i64 left'.lo)).setCell ⟨B, 1, none⟩ (.int .i64 left'.hi)) ch left' vt :=
  ⟨World.Exts.setCell (World.Exts.setCell h.ext hB _) hB _, LaysAs.set (LaysAs.set h.l _) _, laysAs_other (laysAs_other h.o (by dsimp only; omega) _) (by dsimp only; omega) _, (h.row.set (by dsimp only; omega) _).set (by dsimp only; omega) _⟩
/-- A tune is appended. -/
theorem GrAt.push {B : Nat} {V W w' : World} {ch : List Part} {left : Span} {vt v' : Value} {q : Part} (hB : V.heap.size ≤ B) (h : GrAt B V W ch left vt) (hown : w'.ownsRow (B + 2) 74 2 v' (ch.length + 1) (pairCs ch ++ [.int .i64 q.gain, .int .i64 q.off]))
    (happ : AppendedW W w' vt v' (B + 2)) : GrAt B V (w'.setCell ⟨B + 1, 0, none⟩ v') (ch ++ [q]) left v' := by
  have h1 := (h.l.appended happ (owns_off h.row (by omega))).1
  have h2 := (h.o.appended happ (owns_off h.row (by omega))).1
  refine ⟨World.Exts.setCell (happ.exts V h.ext (by omega)) (by dsimp only; omega) _, laysAs_other h1 (by dsimp only; omega) _, LaysAs.set h2 _, ?_⟩
  rw [pairCs_snoc, List.length_append]
  exact hown.set (by dsimp only; omega) _
theorem GrAt.after {B : Nat} {V W w' : World} {ch : List Part} {left : Span} {vt v' : Value} (h : GrAt B V W ch left vt) (happ : AppendedW W w' vt v' (B + 2)) : w'.cell? ⟨B + 1, 0, none⟩ = some vt ∧ w'.frozen? ⟨B + 1, 0, none⟩ = false ∧ w'.cell? ⟨B + 1, 1, none⟩ = some (.slice none 0 0) := by
  have h2 := (h.o.appended happ (owns_off h.row (by omega))).1
  have h3 := h2
  unfold LaysAs at h3
  exact ⟨LaysAs.cell h2 0 _ rfl, by simp [World.frozen?, h3], LaysAs.cell h2 1 _ rfl⟩
theorem GrAt.big {B : Nat} {V W : World} {ch : List Part} {left : Span} {vt : Value} (h : GrAt B V W ch left vt) : B + 2 ≤ W.heap.size := h.o.lt
/-- The search among a scale's parts. -/
def InAt (B : Nat) (V : World) (ps : List Part) (f : Part → Bool) (ch : List Part) (left : Span) (k : Nat) (fv : Value) (W : World) : Prop :=
  (fv = .bool false ∧ (∀ q ∈ ps.take k, f q = false) ∧ ∃ vt, GrAt B V W ch left vt) ∨ (fv = .bool true ∧ ∃ q vt, q ∈ ps ∧ ps.find? f = some q ∧ GrAt B V W (ch ++ [q]) (leave left q) vt)
theorem row_pairs {w : World} {base : Nat} {e : TypeId} {v : Value} {l : List Part} (h : w.ownsRow base e 2 v l.length (pairCs l)) : IsRow (fun q : Part => [.int .i64 q.gain, .int .i64 q.off]) 2 w v l := IsRow.of_owns h (fun _ _ => rfl)
theorem grown_frozen {w w' : World} {row : Option Nat} (hg : w.grownBy w' row) {b i : Nat} (hlt : b < w.heap.size) (hne : some b ≠ row) : w'.frozen? ⟨b, i, none⟩ = w.frozen? ⟨b, i, none⟩ := by
  simp [World.frozen?, hg.block b hlt hne]
def intCs (l : List Int) : List Value := l.flatMap fun x => [.int .i64 x]
theorem intCs_snoc (l : List Int) (x : Int) : intCs (l ++ [x]) = intCs l ++ [.int .i64 x] := by simp [intCs]
theorem elem_int1 : ElemOf Tryd.prog 41 3 (.int .i64 0) 1 8 := ⟨Tryd.underlying41, by kernel_rfl, rfl, by decide, by decide⟩
theorem row_ints {w : World} {base : Nat} {e : TypeId} {v : Value} {l : List Int} (h : w.ownsRow base e 1 v l.length (intCs l)) : IsRow (fun x : Int => [.int .i64 x]) 1 w v l := IsRow.of_owns h (fun _ _ => rfl)
/-- The weights under way: they are laid in the answer's box, all else lies as it lay in V3. -/
structure WAt (B : Nat) (V V3 W : World) (vt vw : Value) (ws : List Int) : Prop where
  o : LaysAs W (B + 1) (.cells [vt, vw].toArray 64 (0, 0))
  row : W.ownsRow V3.heap.size 3 1 vw ws.length (intCs ws)
  ext : V.Exts W
  grow : V3.grownBy W (some (B + 1))
theorem WAt.exts {B : Nat} {V V3 W W' : World} {vt vw : Value} {ws : List Int} (h : WAt B V V3 W vt vw ws) (hE : W.Exts W') : WAt B V V3 W' vt vw ws :=
  ⟨h.o.exts hE, ownsRow_exts h.row hE, h.ext.trans hE, h.grow.andThen (grown_exts (b := some (B + 1)) hE) (fun _ hj => .inr hj)⟩
theorem WAt.cells {B : Nat} {V V3 W : World} {vt vw : Value} {ws : List Int} (h : WAt B V V3 W vt vw ws) : W.cell? ⟨B + 1, 0, none⟩ = some vt ∧ W.cell? ⟨B + 1, 1, none⟩ = some vw ∧ W.frozen? ⟨B + 1, 1, none⟩ = false := by
  have ho := h.o
  unfold LaysAs at ho
  exact ⟨LaysAs.cell h.o 0 _ rfl, LaysAs.cell h.o 1 _ rfl, by simp [World.frozen?, ho]⟩
theorem WAt.after {B : Nat} {V V3 W w' : World} {vt vw v' : Value} {ws : List Int} (h : WAt B V V3 W vt vw ws) (hB : B + 1 < V3.heap.size) (happ : AppendedW W w' vw v' V3.heap.size) : LaysAs w' (B + 1) (.cells [vt, vw].toArray 64 (0, 0)) :=
  (h.o.appended happ (owns_off h.row hB)).1
theorem WAt.push {B : Nat} {V V3 W w' : World} {vt vw v' : Value} {ws : List Int} {x : Int} (h : WAt B V V3 W vt vw ws) (hB : V.heap.size ≤ B) (hB3 : B + 1 < V3.heap.size) (hown : w'.ownsRow V3.heap.size 3 1 v' (ws.length + 1) (intCs ws ++ [.int .i64 x])) (happ : AppendedW W w' vw v' V3.heap.size) :
    WAt B V V3 (w'.setCell ⟨B + 1, 1, none⟩ v') vt v' (ws ++ [x]) := by
  have hVw := happ.exts V h.ext (by omega)
  have hg : V3.grownBy w' (some (B + 1)) := by
    refine ⟨?_, ?_, ?_, Nat.le_trans h.grow.size happ.size, fun k hk hne => ?_⟩
    · exact hVw.below.os.trans (h.ext.below.os.symm.trans h.grow.os)
    · exact hVw.below.tape.trans (h.ext.below.tape.symm.trans h.grow.tape)
    · exact hVw.below.output.trans (h.ext.below.output.symm.trans h.grow.output)
    · rw [happ.block k (Nat.lt_of_lt_of_le hk h.grow.size) (fun e => ?_)]
      · exact h.grow.block k hk hne
      · have := (h.row.lt k e.symm).1; omega
  refine ⟨LaysAs.set (h.after hB3 happ) _, ?_, World.Exts.setCell hVw (by dsimp only; omega) _, grown_trans hg (grown_set _ _ _ _)⟩
  rw [intCs_snoc, List.length_append]
  exact hown.set (by dsimp only; omega) _
end Go.Proofs.YtfjkiemjmnnbkaaDoor
