/-
  Several texts in one: see the heads of its parts.
-/

import Derived.Test.YtcickafaomfbmaaGreatDoorZSJesJb
import Derived.Test.YtcickafaomfbmaaGreatDoorRows
import Derived.ProofKit
import Derived.LaidMore
import Derived.Stop.Joined
import Derived.Test.YtcickafaomfbmaaGreatDoorZSJesIlO
import Derived.ChangeSame
/-
  The listed table of conditions, opened: its five cells hold the five functions; and the door's own heap meets it.
-/
namespace Go.Proofs.YtcickafaomfbmaaGreatDoor
open Go.ChangeShapes Go.RowKit

theorem gConds : (Tryz.prog).globalNamed "kreisel/scale.conditions" = some 0 := by kernel_rfl
theorem tConds : ((Tryz.prog).globals[0]?).map (·.type) = some 123 := by kernel_rfl
theorem cells_condition : (Tryz.prog).cellsOf 122 = 1 := by kernel_rfl
theorem cells_conditions : (Tryz.prog).cellsOf 123 = 5 := by kernel_rfl

theorem mapM5 {α β : Type} {f : α → Option β} {a0 a1 a2 a3 a4 : α} {ys : List β} (h : [a0, a1, a2, a3, a4].mapM f = some ys) : ∃ y0 y1 y2 y3 y4, ys = [y0, y1, y2, y3, y4] ∧ f a0 = some y0 ∧ f a1 = some y1 ∧ f a2 = some y2 ∧ f a3 = some y3 ∧ f a4 = some y4 := by
  cases h0 : f a0 with
  | none => simp [h0] at h
  | some y0 =>
    cases h1 : f a1 with
    | none => simp [h0, h1] at h
    | some y1 =>
      cases h2 : f a2 with
      | none => simp [h0, h1, h2] at h
      | some y2 =>
        cases h3 : f a3 with
        | none => simp [h0, h1, h2, h3] at h
        | some y3 =>
          cases h4 : f a4 with
          | none => simp [h0, h1, h2, h3, h4] at h
          | some y4 =>
            simp [h0, h1, h2, h3, h4] at h
            exact ⟨y0, y1, y2, y3, y4, h.symm, rfl, rfl, rfl, rfl, rfl⟩

set_option maxRecDepth 100000 in
theorem trod_five {W : World} {fuel : Nat} {cs : List Value} {d : DataW (List UInt8)} {p : List MemPlace}
    (h : DataW.trod (funcToken Tryz.prog) Tryz.prog W 0 (fun _ => true) true fuel 123 cs = some (d, p)) :
    ∃ c0 c1 c2 c3 c4 x0 x1 x2 x3 x4 n, cs = [c0, c1, c2, c3, c4] ∧ d = .agg [x0, x1, x2, x3, x4] ∧
      (∃ q, DataW.trod (funcToken Tryz.prog) Tryz.prog W 0 (fun _ => true) true n 122 [c0] = some (x0, q)) ∧ (∃ q, DataW.trod (funcToken Tryz.prog) Tryz.prog W 0 (fun _ => true) true n 122 [c1] = some (x1, q)) ∧ (∃ q, DataW.trod (funcToken Tryz.prog) Tryz.prog W 0 (fun _ => true) true n 122 [c2] = some (x2, q)) ∧
      (∃ q, DataW.trod (funcToken Tryz.prog) Tryz.prog W 0 (fun _ => true) true n 122 [c3] = some (x3, q)) ∧ (∃ q, DataW.trod (funcToken Tryz.prog) Tryz.prog W 0 (fun _ => true) true n 122 [c4] = some (x4, q)) := by
  cases fuel with
  | zero => simp [DataW.trod] at h
  | succ n =>
    unfold DataW.trod at h
    simp only [Tryz.underlying123] at h
    have r5 : List.range 5 = [0, 1, 2, 3, 4] := rfl
    simp only [cells_condition, cells_conditions, r5] at h
    split at h
    case isFalse => cases h
    rename_i hlen
    match cs, hlen with
    | [c0, c1, c2, c3, c4], _ =>
      cases hm : ([0, 1, 2, 3, 4] : List Nat).mapM fun i => DataW.trod (funcToken Tryz.prog) Tryz.prog W 0 (fun _ => true) true n 122 ((([c0, c1, c2, c3, c4] : List Value).drop (i * 1)).take 1) with
      | none => rw [hm] at h; cases h
      | some ys =>
        rw [hm] at h
        obtain ⟨y0, y1, y2, y3, y4, rfl, h0, h1, h2, h3, h4⟩ := mapM5 hm
        simp only [Option.map_some, Option.some.injEq, Prod.mk.injEq, List.map_cons, List.map_nil] at h
        exact ⟨c0, c1, c2, c3, c4, y0.1, y1.1, y2.1, y3.1, y4.1, n, rfl, h.1.symm, ⟨y0.2, h0⟩, ⟨y1.2, h1⟩, ⟨y2.2, h2⟩, ⟨y3.2, h3⟩, ⟨y4.2, h4⟩⟩

set_option maxRecDepth 100000 in
/-- One entry of the table holds the function that its name tells. -/
theorem entry_func {W : World} {n : Nat} {c : Value} {b : UInt8} {r : List UInt8} {q : List MemPlace} {f0 : FuncId} (hone : ((List.range (Tryz.prog).funcs.size).filter fun f => ((Tryz.prog).funcs[f]?).any (·.name.toUTF8.data.toList == b :: r)) = [f0])
    (h : DataW.trod (funcToken Tryz.prog) Tryz.prog W 0 (fun _ => true) true n 122 [c] = some (.agg [.held (b :: r)], q)) : c = .func (.func f0) #[] #[] := by
  obtain ⟨y0, m, e, _, hf⟩ := trod_struct1 Tryz.underlying122 h
  simp only [Prod.mk.injEq, DataW.agg.injEq, List.cons.injEq, and_true] at e
  obtain ⟨e1, e2⟩ := e
  obtain ⟨y, z⟩ := y0
  simp only at e1 e2
  subst e1 e2
  refine func_of_trod (w := W) (base := 0) (sp := fun _ => true) (t := 120) (q := q) Tryz.underlying120 hone (fuel := m) ?_
  exact hf
set_option maxRecDepth 100000 in
theorem five_of_laidM {l : List (String × DataW Unit)} (hm : ("kreisel/scale.conditions", Rows.laid_kreisel_scale_conditions) ∈ l) {W : World} (h : laidMetH Tryz.prog l W) : W.cell? ⟨0, 0, none⟩ = some (.func (.func 247) #[] #[]) ∧ W.cell? ⟨0, 1, none⟩ = some (.func (.func 249) #[] #[]) ∧
    W.cell? ⟨0, 2, none⟩ = some (.func (.func 251) #[] #[]) ∧ W.cell? ⟨0, 3, none⟩ = some (.func (.func 253) #[] #[]) ∧ W.cell? ⟨0, 4, none⟩ = some (.func (.func 254) #[] #[]) := by
  obtain ⟨g, t, cs, fuel, p, hg, ht, hv, hd⟩ := h.funcs hm
  obtain rfl := Option.some.inj (gConds.symm.trans hg)
  obtain rfl := Option.some.inj (tConds.symm.trans ht)
  obtain ⟨c0, c1, c2, c3, c4, x0, x1, x2, x3, x4, n, e, ed, ⟨q0, h0⟩, ⟨q1, h1⟩, ⟨q2, h2⟩, ⟨q3, h3⟩, ⟨q4, h4⟩⟩ := trod_five hd
  have ed' : (DataW.agg [.agg [.held [107, 114, 101, 105, 115, 101, 108, 47, 115, 99, 97, 108, 101, 46, 99, 111, 110, 100, 105, 116, 105, 111, 110, 115, 36, 49]], .agg [.held [107, 114, 101, 105, 115, 101, 108, 47, 115, 99, 97, 108, 101, 46, 99, 111, 110, 100, 105, 116, 105, 111, 110, 115, 36, 50]],
    .agg [.held [107, 114, 101, 105, 115, 101, 108, 47, 115, 99, 97, 108, 101, 46, 99, 111, 110, 100, 105, 116, 105, 111, 110, 115, 36, 51]], .agg [.held [107, 114, 101, 105, 115, 101, 108, 47, 115, 99, 97, 108, 101, 46, 99, 111, 110, 100, 105, 116, 105, 111, 110, 115, 36, 52]],
    .agg [.held [107, 114, 101, 105, 115, 101, 108, 47, 115, 99, 97, 108, 101, 46, 99, 111, 110, 100, 105, 116, 105, 111, 110, 115, 36, 53]]] : DataW (List UInt8)) = .agg [x0, x1, x2, x3, x4] := ed
  simp only [DataW.agg.injEq, List.cons.injEq, and_true] at ed'
  obtain ⟨rfl, rfl, rfl, rfl, rfl⟩ := ed'
  obtain rfl := entry_func (f0 := 247) (by kernel_rfl) h0
  obtain rfl := entry_func (f0 := 249) (by kernel_rfl) h1
  obtain rfl := entry_func (f0 := 251) (by kernel_rfl) h2
  obtain rfl := entry_func (f0 := 253) (by kernel_rfl) h3
  obtain rfl := entry_func (f0 := 254) (by kernel_rfl) h4
  have hc := fun i => World.var?_cell hg hv i
  obtain ⟨csl⟩ := cs
  simp only at e
  subst e
  exact ⟨hc 0, hc 1, hc 2, hc 3, hc 4⟩
theorem conds_of_laidM {l : List (String × DataW Unit)} (hm : ("kreisel/scale.conditions", Rows.laid_kreisel_scale_conditions) ∈ l) {W : World} (h : laidMetH Tryz.prog l W) : CondsAt W := by
  obtain ⟨h0, h1, h2, h3, h4⟩ := five_of_laidM hm h
  exact ⟨h0, h1, h2, h3, h4⟩
end Go.Proofs.YtcickafaomfbmaaGreatDoor

/-
  The listed table of limits, opened: its four cells hold the four functions; and the door's own heap meets both tables.
-/
namespace Go.Proofs.YtcickafaomfbmaaGreatDoor
open Go.ChangeShapes Go.RowKit

end Go.Proofs.YtcickafaomfbmaaGreatDoor
