/-
  Several texts in one: see the heads of its parts.
-/
import Derived.Test.YtfjkiemjmnnbkaaGreatDoorFr
import Derived.Test.YtfjkiemjmnnbkaaGreatDoorPt
import Derived.Test.YtfjkiemjmnnbkaaGreatDoorWd
import Derived.Test.YtfjkiemjmnnbkaaGreatDoorHp

/-
  A twin bay one of whose scales gets a trial more, or another gain and offset: its box and rows. Behind ScaleWider.
-/
namespace Go.Proofs.YtfjkiemjmnnbkaaGreatDoor
open Go.RowKit Kr
set_option linter.unusedSimpArgs false

/-- What the region of the twins leaves. -/
def TwinsAt (ts : List (Kr.Scale × Value)) (g : Gear) (b c : Nat) (W : World) (v : Value) : Prop :=
  (c = 1 → ∃ v' ts', v = .agg #[v'] ∧ BayAt W v' ts' ∧ ts'.map Prod.fst = ts.map Prod.fst ∧ (∀ x ∈ ts', RowT 95 W x.2) ∧ OffT 59 0 W v' ts' ∧ NewBay b W v' ts') ∧
  (c = 3 → ∃ l r s, v = .agg #[l, .int .i64 g.added, .int .i64 g.base, .int .i64 g.jitter, r, s, .int .i64 g.spread, .bool g.stamp] ∧ GearAt W (g, l, r, s) ∧ NewGear b W g l r s) ∧
  (c = 4 → ∃ pp, v = .pointer (some ⟨pp, 0, none⟩) ∧ b ≤ pp ∧ LaysAs W pp (.cells [.slice none 0 0].toArray 24 (0, 0))) ∧
  (c = 5 → ∃ pp, v = .pointer (some ⟨pp, 0, none⟩) ∧ b ≤ pp ∧ LaysAs W pp (.cells [.slice none 0 0, .int .i64 0, .int .i64 0, .int .i64 0, .slice none 0 0, .slice none 0 0, .int .i64 0, .bool false].toArray 50 (0, 0)))
theorem TwinsAt.mono {ts : List (Kr.Scale × Value)} {g : Gear} {b c : Nat} {W W' : World} {v : Value} (h : TwinsAt ts g b c W v) (hE : W.Exts W') : TwinsAt ts g b c W' v := by
  obtain ⟨h1, h2, h3, h4⟩ := h
  refine ⟨fun e => ?_, fun e => ?_, fun e => ?_, fun e => ?_⟩
  · obtain ⟨v', ts', k1, k2, k3, k4, k5, k6⟩ := h1 e
    exact ⟨v', ts', k1, k2.mono hE, k3, fun x hx => (k4 x hx).exts hE, k5.exts hE, k6.mono hE⟩
  · obtain ⟨l, r, s, k1, k2, k3⟩ := h2 e
    exact ⟨l, r, s, k1, k2.mono hE, k3.mono hE⟩
  · obtain ⟨pp, k1, k2, k3⟩ := h3 e
    exact ⟨pp, k1, k2, k3.exts hE⟩
  · obtain ⟨pp, k1, k2, k3⟩ := h4 e
    exact ⟨pp, k1, k2, k3.exts hE⟩
/-- A row of scales in a block of its own. -/
def SC (W : World) (g : Nat) (L : List (Kr.Scale × Value)) : Prop := BlkAt W g (L.flatMap scaleEnc) ∧ ∃ cs fr, W.heap[g]? = some (.cells cs 59 fr)
def trRow (x : Kr.Scale × Value) : RowD := ⟨95, 2, x.2, x.1.trials.length, x.1.trials.flatMap trialEnc⟩
def bxRow (pb : Nat) (vS : Value) : RowD := ⟨24, 1, .slice (some ⟨pb, 0, none⟩) 1 1, 1, [vS]⟩
section
variable {A W W' : World} {B g pb : Nat} {vS : Value} {L : List (Kr.Scale × Value)} {rs : List RowD}
theorem SC.exts (h : SC W g L) (hE : W.Exts W') : SC W' g L := by
  obtain ⟨h1, cs, fr, h2⟩ := h
  exact ⟨h1.exts hE, cs, fr, (hE.below.block g (Array.getElem?_eq_some_iff.1 h2).1).trans h2⟩
theorem SC.appended {v v' : Value} (h : SC W g L) (happ : AppendedW W W' v v' B) (hne : some g ≠ v.ownBlock) : SC W' g L := by
  obtain ⟨h1, cs, fr, h2⟩ := h
  have hb := happ.block g (Array.getElem?_eq_some_iff.1 h2).1 hne
  exact ⟨⟨fun p u hp => by have := h1.cell p u hp; unfold World.cell? at this ⊢; rw [hb]; exact this, fun p hp => by have := h1.free p hp; unfold World.frozen? at this ⊢; rw [hb]; exact this⟩, cs, fr, hb.trans h2⟩
theorem wd_rows (hE : A.Exts W) (ho : TrOwn W g L L.length) (hg : A.heap.size ≤ g) (hb : LaysAs W pb (.cells [vS].toArray 24 (0, 0))) (hpb : A.heap.size ≤ pb) : FrAt A W A.heap.size [] (bxRow pb vS :: L.map trRow) := by
  obtain ⟨bs, h1, h2, h3, h4⟩ := ho
  have hrow : ∀ (i : Nat) (x : Kr.Scale × Value), L[i]? = some x → W.ownsRow (bs i) 95 2 x.2 x.1.trials.length (x.1.trials.flatMap trialEnc) ∧ ∀ b, x.2.ownBlock = some b → b < bs (i + 1) := fun i x hx => h4 i x (lt_of_some hx) hx
  refine ⟨hE, Nat.le_refl _, fun b hb => (by cases hb), List.Pairwise.nil, fun r hr => ?_, ?_, hE.size⟩
  · rcases List.mem_cons.1 hr with rfl | hr
    · exact ⟨rfl, .inr ⟨pb, 1, _, rfl, hpb, hb, Nat.le_refl _, by decide, rfl, rfl⟩⟩
    · obtain ⟨x, hx, rfl⟩ := List.mem_map.1 hr
      obtain ⟨i, hi⟩ := List.mem_iff_getElem?.1 hx
      have := chain_le h1 (Nat.le_of_lt (lt_of_some hi))
      exact ownsRow_lower (hrow i x hi).1 (by omega)
  · rw [List.pairwise_cons]
    refine ⟨fun r hr => ?_, ?_⟩
    · obtain ⟨x, hx, rfl⟩ := List.mem_map.1 hr
      obtain ⟨i, hi⟩ := List.mem_iff_getElem?.1 hx
      intro k hk e
      simp only [bxRow, Value.ownBlock, Option.some.injEq] at hk
      subst hk
      obtain ⟨cs, fr, hT⟩ := RowT.of_owns (hrow i x hi).1 pb e
      unfold LaysAs at hb
      rw [hb] at hT
      simp at hT
    · rw [List.pairwise_iff_getElem]
      intro i j hi hj hij
      rw [List.length_map] at hi hj
      rw [List.getElem_map, List.getElem_map]
      intro k hk e
      have h5 := (hrow i _ (List.getElem?_eq_getElem hi)).2 k hk
      have h6 := ((hrow j _ (List.getElem?_eq_getElem hj)).1.lt k e).1
      have h7 := chain_le2 h1 (show i + 1 ≤ j by omega) (Nat.le_of_lt hj)
      omega
/-- A store into a block of another type. -/
theorem FrAt.other {t : TypeId} {cs : Array Value} {fr : Nat × Nat} (h : FrAt A W B [] rs) (hT : W.heap[g]? = some (.cells cs t fr)) (hne : ∀ r ∈ rs, r.t ≠ t) (hg : A.heap.size ≤ g) (i : Nat) (u : Value) : FrAt A (W.setCell ⟨g, i, none⟩ u) B [] rs :=
  ⟨World.Exts.setCell h.ext hg _, h.hA, fun b hb => (by cases hb), List.Pairwise.nil, fun r hr => ownsRow_type (h.ro r hr) hT (hne r hr), h.rd, by simpa using h.sz⟩
theorem SC.put {k j : Nat} {x y : Kr.Scale × Value} {u : Value} (h : SC W g L) (hx : L[k]? = some x) (hj : j < 7) (hy : scaleEnc y = (scaleEnc x).set j u) : SC (W.setCell ⟨g, k * 7 + j, none⟩ u) g (L.set k y) := by
  obtain ⟨h1, cs, fr, h2⟩ := h
  have hTy : RowT 59 W (.slice (some ⟨g, 0, none⟩) L.length L.length) := fun b hb => by simp [Value.ownBlock] at hb; subst hb; exact ⟨cs, fr, h2⟩
  exact ⟨BlkAt.put (K := 7) (fun _ => rfl) h1 hx hj hy, hTy.set ⟨g, k * 7 + j, none⟩ u g rfl⟩
theorem wd_bay {b : RowD} {n cg : Nat} (hF : FrAt A W B [] (b :: L.map trRow)) (hS : SC W g L) (hn : n = L.length) (hc : n ≤ cg ∧ cg ≤ 9223372036854775807) : BayAt W (.slice (some ⟨g, 0, none⟩) n cg) L := by
  subst hn
  obtain ⟨h1, cs, fr, h2⟩ := hS
  exact ⟨IsRow.of_blk (fun _ => rfl) h1 ⟨(Array.getElem?_eq_some_iff.1 h2).1⟩ hc, fun x hx => IsRow.of_owns (hF.ro (trRow x) (List.mem_cons_of_mem _ (List.mem_map.2 ⟨x, hx, rfl⟩))) (fun _ _ => rfl)⟩
/-- What stays while the trials of scale k grow. -/
def WdG (A : World) (B g pb : Nat) (vS : Value) (L : List (Kr.Scale × Value)) (k : Nat) (x : Value) (W : World) : Prop := FrG A B [] ((bxRow pb vS :: L.map trRow).eraseIdx (k + 1)) x W ∧ SC W g L
theorem WdG.box {k : Nat} {x : Value} (Y : GW (WdG A B g pb vS L k x)) : Y.w.cell? ⟨pb, 0, none⟩ = some vS := (BlkAt.of_owns (Y.h.1.fr.row 0 rfl)).cell 0 _ rfl
theorem WdG.cell {k i j : Nat} {x u : Value} {y : Kr.Scale × Value} (Y : GW (WdG A B g pb vS L k x)) (hy : L[i]? = some y) (hu : (scaleEnc y)[j]? = some u) : Y.w.cell? ⟨g, i * 7 + j, none⟩ = some u := Y.h.2.1.cell _ _ (flat_row (enc := scaleEnc) (size := 7) (fun _ => rfl) hy hu)
end
section
variable {A W : World} {c4 c5 : List Value} {b1 b2 b3 p4 p5 : Nat} {vS l r s : Value} {L : List (Kr.Scale × Value)} {ld : List Kr.Load} {rn st : List Int}
/-- One cell of a scale is written. -/
theorem TuAt.putSj {g cg n k j : Nat} {x : Kr.Scale × Value} {y : Kr.Scale} {u : Value} (h : TuAt A W c4 c5 b1 b2 b3 p4 p5 (.slice (some ⟨g, 0, none⟩) n cg) l r s L ld rn st) (hx : L[k]? = some x) (hj : j < 7) (hy : scaleEnc (y, x.2) = (scaleEnc x).set j u) (ht : y.trials = x.1.trials) :
    TuAt A (W.setCell ⟨g, k * 7 + j, none⟩ u) c4 c5 b1 b2 b3 p4 p5 (.slice (some ⟨g, 0, none⟩) n cg) l r s (L.set k (y, x.2)) ld rn st := by
  have hne : L ≠ [] := fun e => by rw [e] at hx; simp at hx
  obtain ⟨g', cg', hv, hA, hc, hb, cs, fr, hT⟩ := h.sc.resolve_left hne
  simp only [Value.slice.injEq, Option.some.injEq, Addr.mk.injEq, and_true] at hv
  obtain ⟨rfl, rfl, rfl⟩ := hv
  have hTy : RowT 59 W (.slice (some ⟨g, 0, none⟩) L.length cg) := fun b hb => by simp [Value.ownBlock] at hb; subst hb; exact ⟨cs, fr, hT⟩
  have hT2 := hTy.set ⟨g, k * 7 + j, none⟩ u g rfl
  have hput := BlkAt.put (K := 7) (fun _ => rfl) hb hx hj hy
  refine ⟨World.Exts.setCell h.ext hA _, lays_type h.o4 hT (by decide), lays_type h.o5 hT (by decide), h.n4, h.n5, ⟨_, _, by rw [List.length_set]⟩, fun e => absurd e (by simpa using hne), .inr ⟨g, cg, by rw [List.length_set], hA, by rw [List.length_set]; exact hc, hput, hT2⟩, fun y' hy' => ?_, ownsRow_type h.ol hT (by decide), ownsRow_type h.oR hT (by decide), ownsRow_type h.os hT (by decide), h.nb, h.sl, h.sr⟩
  rcases List.mem_or_eq_of_mem_set hy' with h1 | rfl
  · exact ⟨row_type (h.tr y' h1).1 (h.tr y' h1).2 hT (by decide), (h.tr y' h1).2.set _ _⟩
  · have h1 := h.tr x (List.mem_of_getElem? hx)
    refine ⟨?_, h1.2.set _ _⟩
    dsimp only
    rw [ht]
    exact row_type h1.1 h1.2 hT (by decide)
end
theorem gives_trials {o : Oper} {ρ : Operand → Value} {W : World} {R : Value → World → Prop} {x : Operand} {a b : Int} (ho : o.op = .buildSlice 57 1 #[(0, x)]) (hx : ρ x = .agg #[.int .i64 a, .int .i64 b]) (h : R (.slice (some ⟨W.heap.size, 0, none⟩) 1 1) (W.alloc (.cells #[.int .i64 a, .int .i64 b] 95))) : o.givesI Tryz.prog ρ W R := by
  refine .inl (.inr ⟨_, _, ?_, h⟩)
  unfold execOp
  simp only [ho, List.map_toArray, List.map_cons, List.map_nil, hx]
  kernel_rfl
theorem wd_totals {b : List Kr.Scale} {g : Gear} (h : check b g = 0) : totalsR b g = (totals b g, if totals b g = [] then 6 else 0) := by
  unfold totalsR
  rw [if_pos h]
  by_cases h2 : totals b g = []
  · rw [if_pos (by simpa using h2), if_pos h2, h2]
  · rw [if_neg (by simpa using h2), if_neg h2]
theorem trRow_tried (s : Kr.Scale) (t : Kr.Trial) (v : Value) : trRow (tried s t, v) = ⟨95, 2, v, s.trials.length + 1, s.trials.flatMap trialEnc ++ [.int .i64 t.weight, .int .i64 t.shown]⟩ := by
  unfold trRow tried
  simp [trialEnc]
section
variable {A W : World} {c4 c5 : List Value} {b1 b2 b3 p4 p5 : Nat} {l r s : Value} {L : List (Kr.Scale × Value)} {ld : List Kr.Load} {rn st : List Int}
theorem TuAt.cellS {g cg n k j : Nat} {x : Kr.Scale × Value} {u : Value} (h : TuAt A W c4 c5 b1 b2 b3 p4 p5 (.slice (some ⟨g, 0, none⟩) n cg) l r s L ld rn st) (hx : L[k]? = some x) (hu : (scaleEnc x)[j]? = some u) : W.cell? ⟨g, k * 7 + j, none⟩ = some u ∧ W.frozen? ⟨g, k * 7 + j, none⟩ = false := by
  have hne : L ≠ [] := fun e => by rw [e] at hx; simp at hx
  obtain ⟨g', cg', hv, hA, hc, hb, -⟩ := h.sc.resolve_left hne
  simp only [Value.slice.injEq, Option.some.injEq, Addr.mk.injEq, and_true] at hv
  obtain ⟨rfl, rfl, rfl⟩ := hv
  have h1 := flat_row (enc := scaleEnc) (size := 7) (fun _ => rfl) hx hu
  exact ⟨hb.cell _ _ h1, hb.free _ (List.getElem?_eq_some_iff.1 h1).1⟩
theorem TuAt.putGain {g cg n k : Nat} {x : Kr.Scale} {tv : Value} (h : TuAt A W c4 c5 b1 b2 b3 p4 p5 (.slice (some ⟨g, 0, none⟩) n cg) l r s L ld rn st) (hx : L[k]? = some (x, tv)) (a b : Int) :
    TuAt A ((W.setCell ⟨g, k * 7 + 2, none⟩ (.int .i64 a)).setCell ⟨g, k * 7 + 3, none⟩ (.int .i64 b)) c4 c5 b1 b2 b3 p4 p5 (.slice (some ⟨g, 0, none⟩) n cg) l r s (L.set k ({ x with gain := ⟨a, b⟩ }, tv)) ld rn st := by
  have h1 := h.putSj (j := 2) (y := { x with gain := ⟨a, x.gain.hi⟩ }) (u := .int .i64 a) hx (by omega) rfl rfl
  have h2 := h1.putSj (k := k) (x := ({ x with gain := ⟨a, x.gain.hi⟩ }, tv)) (j := 3) (y := { x with gain := ⟨a, b⟩ }) (u := .int .i64 b) (List.getElem?_set_self (lt_of_some hx)) (by omega) rfl rfl
  rw [List.set_set] at h2
  exact h2
theorem TuAt.putOff {g cg n k : Nat} {x : Kr.Scale} {tv : Value} (h : TuAt A W c4 c5 b1 b2 b3 p4 p5 (.slice (some ⟨g, 0, none⟩) n cg) l r s L ld rn st) (hx : L[k]? = some (x, tv)) (a b : Int) :
    TuAt A ((W.setCell ⟨g, k * 7 + 4, none⟩ (.int .i64 a)).setCell ⟨g, k * 7 + 5, none⟩ (.int .i64 b)) c4 c5 b1 b2 b3 p4 p5 (.slice (some ⟨g, 0, none⟩) n cg) l r s (L.set k ({ x with off := ⟨a, b⟩ }, tv)) ld rn st := by
  have h1 := h.putSj (j := 4) (y := { x with off := ⟨a, x.off.hi⟩ }) (u := .int .i64 a) hx (by omega) rfl rfl
  have h2 := h1.putSj (k := k) (x := ({ x with off := ⟨a, x.off.hi⟩ }, tv)) (j := 5) (y := { x with off := ⟨a, b⟩ }) (u := .int .i64 b) (List.getElem?_set_self (lt_of_some hx)) (by omega) rfl rfl
  rw [List.set_set] at h2
  exact h2
end
/-- A store of a number, in such a region. -/
theorem gives_store {o : Oper} {ρ : Operand → Value} {W : World} {R : Value → World → Prop} {x y : Operand} {p i : Nat} {m : Int} {u : Value} (ho : o.op = .store 3 x y) (hx : ρ x = .pointer (some ⟨p, i, none⟩)) (hy : ρ y = .int .i64 m) (hc : W.cell? ⟨p, i, none⟩ = some u) (hf : W.frozen? ⟨p, i, none⟩ = false) (h : R undef (W.setCell ⟨p, i, none⟩ (.int .i64 m))) : o.givesI Tryz.prog ρ W R := by
  refine .inr ⟨_, ?_, h⟩
  unfold execOp
  simp only [ho, hx, hy]
  simp [go_sem, hc, hf]
/-- A box of eight cells of which one is written in a region, at whatever time. -/
def OneSet (Q : List Value → World → Prop) (c c' : List Value) (ca : Nat) (listed : Array Bool) (W : World) : Prop := Q (if listed.getD ca true = true then c' else c) W
theorem OneSet.set {Q : List Value → World → Prop} {c c' : List Value} {ca i : Nat} {listed : Array Bool} {W W' : World} (h : OneSet Q c c' ca listed W) (hi : i ≠ ca) (hQ : ∀ c, Q c W → Q c W') : OneSet Q c c' ca (listed.setIfInBounds i true) W' := by
  unfold OneSet at h ⊢
  rw [listed_set (Ne.symm hi)]
  exact hQ _ h
theorem OneSet.done {Q : List Value → World → Prop} {c c' : List Value} {ca : Nat} {listed : Array Bool} {W W' : World} (h : OneSet Q c c' ca listed W) (hun : listed.getD ca true = false) (hsz : ca < listed.size) (hQ : Q c W → Q c' W') : OneSet Q c c' ca (listed.setIfInBounds ca true) W' := by
  unfold OneSet at h ⊢
  rw [getD_set_same true hsz, if_pos rfl]
  rw [hun] at h
  exact hQ h
theorem gives_rem {o : Oper} {ρ : Operand → Value} {W : World} {R : Value → World → Prop} {x : Operand} {a m r : Int} (ho : o.op = .binOp .rem 3 x (.const (.int .i64 m)) 3) (hc : ρ (.const (.int .i64 m)) = .int .i64 m) (hm : 0 < m ∧ m < 1000000) (hx : ρ x = .int .i64 a) (hr : a.tmod m = r) (h : R (.int .i64 r) W) : o.givesI Tryz.prog ρ W R := by
  refine .inl (.inr ⟨_, _, ?_, h⟩)
  unfold execOp
  simp only [ho, hx, hc]
  simp [go_sem, hr]
  omega
theorem gives_min {o : Oper} {ρ : Operand → Value} {W : World} {R : Value → World → Prop} {x : Operand} {a m : Int} (ho : o.op = .call { callee := .builtin .min, args := #[.const (.int .i64 m), x], argTypes := #[3, 3] }) (hc : ρ (.const (.int .i64 m)) = .int .i64 m) (hx : ρ x = .int .i64 a) (h : R (.int .i64 (min m a)) W) : o.givesI Tryz.prog ρ W R := by
  refine .inl (.inr ⟨_, _, ?_, h⟩)
  unfold execOp
  simp only [ho, resolve, invoke, builtin, List.map_toArray, List.map_cons, List.map_nil, hx, hc]
  simp [go_sem]
/-- What is known of the values of such a region's operations. -/
def ValAt (tab : Nat → Option Value) (c : Nat) (v : Value) : Prop := ∀ u, tab c = some u → v = u
theorem ValAt.get {tab : Nat → Option Value} {c : Nat} {v u : Value} (h : ValAt tab c v) (ht : tab c = some u) : v = u := h u ht
theorem ValAt.mk {tab : Nat → Option Value} {c : Nat} {v : Value} (ht : tab c = some v) : ValAt tab c v := fun u hu => by rw [ht] at hu; exact Option.some.inj hu
def looseTab (a3 a4 a5 a6 b3 b4 b5 b6 : Int) : Nat → Option Value
  | 3 => some (.int .i64 a3)
  | 4 => some (.int .i64 a4)
  | 5 => some (.int .i64 a5)
  | 6 => some (.int .i64 a6)
  | 10 => some (.int .i64 b3)
  | 11 => some (.int .i64 b4)
  | 12 => some (.int .i64 b5)
  | 13 => some (.int .i64 b6)
  | _ => none
end Go.Proofs.YtfjkiemjmnnbkaaGreatDoor

/-
  A bay one of whose scales got a trial more, or is wider: its totals, and what is judged. The plain law behind ScaleWider.
-/
namespace Go.Proofs.YtfjkiemjmnnbkaaGreatDoor
open Go.RowKit Kr
set_option linter.unusedSimpArgs false

theorem bayOk_ids {b : List Kr.Scale} (h : bayOk b = true) : b.Pairwise IdLt := by
  simp [bayOk] at h
  exact (bayFrom_ids h.1).2
theorem wd_tried {b : List Kr.Scale} {g : Gear} {k : Nat} {s : Kr.Scale} {t : Kr.Trial} (hk : b[k]? = some s) (hc : check b g = 0) (hc' : check (b.set k (tried s t)) g = 0) : amongB (totals (b.set k (tried s t)) g) (totals b g) = true := by
  have e := Kr.set_map (bayOk_ids (check_zero hc).1) hk (fun s => tried s t)
  rw [e] at hc' ⊢
  exact amongB_true (under_among (tried_under s.id t) hc hc' rfl rfl)
def wcT (by_ : List Int) (i : Nat) (m : Int) : Int := chooseL by_ i % m
def wideS (by_ : List Int) (s : Kr.Scale) : Kr.Scale := widen (wcT by_ 1 4) (wcT by_ 2 4) (wcT by_ 3 30) (wcT by_ 4 30) s
def looseG (by_ : List Int) (g : Gear) : Gear := { g with jitter := min 1000 (g.jitter + wcT by_ 5 9), spread := min 2000 (g.spread + wcT by_ 6 9) }
theorem wcT_bd (by_ : List Int) (i : Nat) {m : Int} (h : 0 < m) : 0 ≤ wcT by_ i m ∧ wcT by_ i m < m := ⟨Int.emod_nonneg _ (by omega), Int.emod_lt_of_pos _ h⟩
theorem loose_bare {by_ : List Int} {g : Gear} (h : bare g = true) : bare (looseG by_ g) = true := by
  have h5 := wcT_bd by_ 5 (show (0 : Int) < 9 by omega)
  have h6 := wcT_bd by_ 6 (show (0 : Int) < 9 by omega)
  unfold bare looseG inAll inb at *
  simp only [Bool.and_eq_true, decide_eq_true_eq, List.all_eq_true] at h ⊢
  obtain ⟨⟨⟨⟨⟨a1, a2⟩, a3⟩, a4⟩, a5⟩, a6⟩ := h
  exact ⟨⟨⟨⟨⟨a1, a2⟩, by omega⟩, a4⟩, a5⟩, by omega⟩
theorem wd_wide {b : List Kr.Scale} {g : Gear} {n : Norm} {k : Nat} {s : Kr.Scale} (by_ : List Int) (hk : b[k]? = some s) (hc : check b g = 0) (hn : normB n = true) :
    check (b.set k (wideS by_ s)) (looseG by_ g) = 0 ∧ amongB (totals b g) (totals (b.set k (wideS by_ s)) (looseG by_ g)) = true ∧
    ((judgeR b g n).2 = 0 → (judgeR (b.set k (wideS by_ s)) (looseG by_ g) n).2 = 0 ∧ Opens (judgeR (b.set k (wideS by_ s)) (looseG by_ g) n).1.2 (judgeR b g n).1.2 ∧ (judgeR b g n).1.1.length = 5 ∧ (judgeR (b.set k (wideS by_ s)) (looseG by_ g) n).1.1.length = 5 ∧ ∀ (i : Nat) (a c : Int), (judgeR b g n).1.1[i]? = some a → (judgeR (b.set k (wideS by_ s)) (looseG by_ g) n).1.1[i]? = some c → Opens c a) := by
  have e := Kr.set_map (bayOk_ids (check_zero hc).1) hk (wideS by_)
  rw [e]
  have h1 := (wcT_bd by_ 1 (show (0 : Int) < 4 by omega)).1
  have h2 := (wcT_bd by_ 2 (show (0 : Int) < 4 by omega)).1
  have h3 := (wcT_bd by_ 3 (show (0 : Int) < 30 by omega)).1
  have h4 := (wcT_bd by_ 4 (show (0 : Int) < 30 by omega)).1
  have h5 := (wcT_bd by_ 5 (show (0 : Int) < 9 by omega)).1
  have h6 := (wcT_bd by_ 6 (show (0 : Int) < 9 by omega)).1
  have hb := bare_bounds (gearOk_bare (check_zero hc).2)
  have hck := wide_check (g' := looseG by_ g) hc s.id h1 h2 h3 h4 rfl (loose_bare (gearOk_bare (check_zero hc).2))
  have hu := wide_under (bayOk_right (check_zero hc).1) s.id h1 h2 h3 h4
  refine ⟨hck, amongB_true (under_among hu hck hc rfl rfl), fun h => judge_opens hu hc hck rfl rfl rfl rfl ?_ rfl ?_ rfl hn h⟩
  · show g.jitter ≤ min 1000 (g.jitter + wcT by_ 5 9); omega
  · show g.spread ≤ min 2000 (g.spread + wcT by_ 6 9); omega
end Go.Proofs.YtfjkiemjmnnbkaaGreatDoor
