/-
  Several texts in one: see the heads of its parts.
-/

import Derived.Test.YtcickafaomfbmaaGreatDoorZSBksJb
import Derived.Test.YtcickafaomfbmaaGreatDoorRows
import Derived.ProofKit
import Derived.LaidMore
import Derived.Stop.Joined
import Derived.Test.YtcickafaomfbmaaGreatDoorZSBksIlO
import Derived.ChangeSame
/-
  The listed table of conditions, opened: its five cells hold the five functions; and the door's own heap meets it.
-/
namespace Go.Proofs.YtcickafaomfbmaaGreatDoor
open Go.ChangeShapes Go.RowKit

end Go.Proofs.YtcickafaomfbmaaGreatDoor

/-
  The listed table of limits, opened: its four cells hold the four functions; and the door's own heap meets both tables.
-/
namespace Go.Proofs.YtcickafaomfbmaaGreatDoor
open Go.ChangeShapes Go.RowKit

theorem gLims : (Tryz.prog).globalNamed "kreisel/ice.limits" = some 1 := by kernel_rfl
theorem tLims : ((Tryz.prog).globals[1]?).map (·.type) = some 216 := by kernel_rfl
theorem cells_limit : (Tryz.prog).cellsOf 215 = 2 := by kernel_rfl
theorem cells_limits : (Tryz.prog).cellsOf 216 = 4 := by kernel_rfl

theorem mapM2 {α β : Type} {f : α → Option β} {a0 a1 : α} {ys : List β} (h : [a0, a1].mapM f = some ys) : ∃ y0 y1, ys = [y0, y1] ∧ f a0 = some y0 ∧ f a1 = some y1 := by
  cases h0 : f a0 with
  | none => simp [h0] at h
  | some y0 =>
    cases h1 : f a1 with
    | none => simp [h0, h1] at h
    | some y1 =>
      simp [h0, h1] at h
      exact ⟨y0, y1, h.symm, rfl, rfl⟩

set_option maxRecDepth 100000 in
theorem trod_two {W : World} {fuel : Nat} {cs : List Value} {d : DataW (List UInt8)} {p : List MemPlace}
    (h : DataW.trod (funcToken Tryz.prog) Tryz.prog W 0 (fun _ => true) true fuel 216 cs = some (d, p)) :
    ∃ c0 c1 c2 c3 x0 x1 n, cs = [c0, c1, c2, c3] ∧ d = .agg [x0, x1] ∧
      (∃ q, DataW.trod (funcToken Tryz.prog) Tryz.prog W 0 (fun _ => true) true n 215 [c0, c1] = some (x0, q)) ∧ (∃ q, DataW.trod (funcToken Tryz.prog) Tryz.prog W 0 (fun _ => true) true n 215 [c2, c3] = some (x1, q)) := by
  cases fuel with
  | zero => simp [DataW.trod] at h
  | succ n =>
    unfold DataW.trod at h
    simp only [Tryz.underlying216] at h
    have r2 : List.range 2 = [0, 1] := rfl
    simp only [cells_limit, cells_limits, r2] at h
    split at h
    case isFalse => cases h
    rename_i hlen
    match cs, hlen with
    | [c0, c1, c2, c3], _ =>
      cases hm : ([0, 1] : List Nat).mapM fun i => DataW.trod (funcToken Tryz.prog) Tryz.prog W 0 (fun _ => true) true n 215 ((([c0, c1, c2, c3] : List Value).drop (i * 2)).take 2) with
      | none => rw [hm] at h; cases h
      | some ys =>
        rw [hm] at h
        obtain ⟨y0, y1, rfl, h0, h1⟩ := mapM2 hm
        simp only [Option.map_some, Option.some.injEq, Prod.mk.injEq, List.map_cons, List.map_nil] at h
        exact ⟨c0, c1, c2, c3, y0.1, y1.1, n, rfl, h.1.symm, ⟨y0.2, h0⟩, ⟨y1.2, h1⟩⟩

set_option maxRecDepth 100000 in
/-- One entry of the table holds the two functions that its names tell. -/
theorem entry_pair {W : World} {n : Nat} {c0 c1 : Value} {b0 b1 : UInt8} {r0 r1 : List UInt8} {q : List MemPlace} {f0 f1 : FuncId} (one0 : ((List.range (Tryz.prog).funcs.size).filter fun f => ((Tryz.prog).funcs[f]?).any (·.name.toUTF8.data.toList == b0 :: r0)) = [f0])
    (one1 : ((List.range (Tryz.prog).funcs.size).filter fun f => ((Tryz.prog).funcs[f]?).any (·.name.toUTF8.data.toList == b1 :: r1)) = [f1])
    (h : DataW.trod (funcToken Tryz.prog) Tryz.prog W 0 (fun _ => true) true n 215 [c0, c1] = some (.agg [.held (b0 :: r0), .held (b1 :: r1)], q)) : c0 = .func (.func f0) #[] #[] ∧ c1 = .func (.func f1) #[] #[] := by
  obtain ⟨y0, y1, m, e, _, h0, h1⟩ := trod_struct2 Tryz.underlying215 h
  simp only [Prod.mk.injEq, DataW.agg.injEq, List.cons.injEq, and_true] at e
  obtain ⟨⟨e1, e2⟩, e3⟩ := e
  obtain ⟨y, z⟩ := y0
  obtain ⟨y', z'⟩ := y1
  simp only at e1 e2
  subst e1 e2
  exact ⟨func_of_trod (w := W) (base := 0) (sp := fun _ => true) (t := 213) (q := z) Tryz.underlying213 one0 (fuel := m) h0, func_of_trod (w := W) (base := 0) (sp := fun _ => true) (t := 34) (q := z') Tryz.underlying34 one1 (fuel := m) h1⟩
set_option maxRecDepth 100000 in
theorem lims_of_laidM {l : List (String × DataW Unit)} (hm : ("kreisel/ice.limits", Rows.laid_kreisel_ice_limits) ∈ l) {W : World} (h : laidMetH Tryz.prog l W) : LimsAt W := by
  obtain ⟨g, t, cs, fuel, p, hg, ht, hv, hd⟩ := h.funcs hm
  obtain rfl := Option.some.inj (gLims.symm.trans hg)
  obtain rfl := Option.some.inj (tLims.symm.trans ht)
  obtain ⟨c0, c1, c2, c3, x0, x1, n, e, ed, ⟨q0, h0⟩, ⟨q1, h1⟩⟩ := trod_two hd
  have ed' : (DataW.agg [.agg [.held [107, 114, 101, 105, 115, 101, 108, 47, 105, 99, 101, 46, 108, 105, 109, 105, 116, 115, 36, 49], .held [107, 114, 101, 105, 115, 101, 108, 47, 105, 99, 101, 46, 108, 105, 109, 105, 116, 115, 36, 50]], .agg [.held [107, 114, 101, 105, 115, 101, 108, 47, 105, 99, 101, 46, 108, 105, 109, 105, 116, 115, 36, 51], .held [107, 114, 101, 105, 115, 101, 108, 47, 105, 99, 101, 46, 108, 105, 109, 105, 116, 115, 36, 52]]] : DataW (List UInt8)) = .agg [x0, x1] := ed
  simp only [DataW.agg.injEq, List.cons.injEq, and_true] at ed'
  obtain ⟨rfl, rfl⟩ := ed'
  obtain ⟨rfl, rfl⟩ := entry_pair (f0 := 260) (f1 := 261) (by kernel_rfl) (by kernel_rfl) h0
  obtain ⟨rfl, rfl⟩ := entry_pair (f0 := 262) (f1 := 263) (by kernel_rfl) (by kernel_rfl) h1
  have hc := fun i => World.var?_cell hg hv i
  obtain ⟨csl⟩ := cs
  simp only at e
  subst e
  exact ⟨hc 0, hc 1, hc 2, hc 3⟩
end Go.Proofs.YtcickafaomfbmaaGreatDoor
