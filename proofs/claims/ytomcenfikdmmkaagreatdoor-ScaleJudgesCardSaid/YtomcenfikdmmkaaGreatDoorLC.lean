/-
  The law ScaleJudges: its walk.
-/
import Derived.Test.YtomcenfikdmmkaaGreatDoorJl
import Derived.Test.YtomcenfikdmmkaaGreatDoorJd
import Derived.Test.YtomcenfikdmmkaaGreatDoorTl
import Derived.Test.YtomcenfikdmmkaaGreatDoorTm
import Derived.Test.YtomcenfikdmmkaaGreatDoorRg
namespace Go
open Go.RowKit
/-- 'append([]T{}, y...)' where the empty slice was made at some time before: what comes of it. -/
theorem gives_append_none {P : Program} {W : World} {α : Type} {enc : α → List Value} {ys : List α} {xv : Value} {o : Oper} {ρ : Operand → Value} {s x : Operand} {t e size bytes : Nat} {z : Value} (E : ElemOf P t e z size bytes)
    (ho : o.op = .call { callee := .builtin .append, args := #[s, x], argTypes := #[t, t] }) {g : Nat}
    (hs : ρ s = .slice (some ⟨g, 0, none⟩) 0 0) (hg : LaysAs W g (.cells #[] e (0, 0))) (hx : ρ x = xv) (hrow : IsRow enc size W xv ys) (henc : ∀ y ∈ ys, (enc y).length = size) (h1 : ∀ y ∈ ys, ∀ u ∈ enc y, u.oneCell' = true) (hn : ys.length ≤ 1000000000) :
    o.gives P ρ W fun v W' => W.Exts W' ∧ IsRow enc size W' v ys ∧ RowT e W' v := by
  obtain ⟨i0, hi, hz0, hz1, hz2⟩ := info_parts E.inf
  have hE : ∀ v W', (Builtin.append_ #[t, t] o.type #[.slice (some ⟨g, 0, none⟩) 0 0, xv]).run P W = .ok v W' → (execOp ρ o).run P W = .ok (.value v) W' := by
    intro v W' hr
    simp [execOp, ho, resolve, invoke, builtin, hs, hx, hr, Result.andThen]
  have hT : RowT e W (.slice (some ⟨g, 0, none⟩) 0 0) := fun b hb => by
    simp [Value.ownBlock] at hb
    subst hb
    exact ⟨_, _, hg⟩
  have hown : W.ownsRow g e size (.slice (some ⟨g, 0, none⟩) 0 0) 0 [] := ⟨by simp, .inr ⟨g, 0, #[], rfl, Nat.le_refl _, hg, Nat.le_refl _, by unfold maxLen; omega, by simp, by simp⟩⟩
  obtain ⟨p, b, oo, cap, hv, hm, hp, hc⟩ := hrow.ex
  by_cases h0 : 0 < ys.length
  · obtain ⟨rfl, _⟩ := hp h0
    have hcells : ∀ j u, (ys.flatMap enc)[j]? = some u → W.cell? ((⟨b, oo, none⟩ : Addr).add j) = some u := by
      intro q u hq
      obtain ⟨i, y, j, e1, e2, rfl⟩ := flat_get ys henc q u hq
      rw [show (⟨b, oo, none⟩ : Addr).add (i * size + j) = ⟨b, oo + i * size + j, none⟩ from by unfold Addr.add; split <;> simp_all [Nat.add_assoc]]
      exact hc i y e1 j u e2
    have hlen := flat_len ys henc
    have hr := run_append_grow (P := P) W t o.type e i0 z E.und hi hz0 ⟨g, 0, none⟩ 0 0 [] (by simp) (fun j v h => by simp at h) ⟨b, oo, none⟩ ys.length cap (ys.flatMap enc) (by rw [hlen, hz1]) hcells (by omega) (by omega)
      (growslice_fits (by omega) (by
        rw [hz2]
        have h := E.small
        calc (0 + ys.length) * bytes ≤ (0 + ys.length) * 65536 := Nat.mul_le_mul_left _ h
          _ ≤ 140737488355328 := by omega))
    obtain ⟨v', w', hr', ho', hg', _⟩ := run_append_own (P := P) W g t o.type e i0 z size bytes E.und hi hz0 hz1 hz2 E.zs E.pos (.slice (some ⟨g, 0, none⟩) 0 0) 0 [] hown ⟨b, oo, none⟩ ys.length cap (ys.flatMap enc) hlen hcells
      (fun u hu => by obtain ⟨y, hy, hu⟩ := List.mem_flatMap.1 hu; exact h1 y hy u hu) (by unfold maxLen; omega) (by
        have h := E.small
        calc (0 + ys.length) * bytes ≤ (0 + ys.length) * 65536 := Nat.mul_le_mul_left _ h
          _ ≤ 140737488355328 := by omega) (Nat.le_of_lt hg.lt)
    rw [hr] at hr'
    simp only [Result.ok.injEq] at hr'
    obtain ⟨e1, e2⟩ := hr'
    refine .inr ⟨_, _, hE _ _ (by rw [hv]; exact hr), ((World.Exts.refl W).drew).alloc _, ?_, ?_⟩
    · rw [e1, e2]; exact IsRow.of_owns (by simpa using ho') henc
    · rw [e1, e2]; exact RowT.of_owns ho'
  · have : ys = [] := List.eq_nil_of_length_eq_zero (by omega)
    subst this
    refine .inr ⟨.slice (some ⟨g, 0, none⟩) 0 0, W, hE _ _ ?_, World.Exts.refl _, IsRow.of_owns (by simpa using hown) henc, hT⟩
    rw [hv]
    cases p with
    | none => exact run_append_none_cap t o.type E hown
    | some ad =>
      have h := run_append_room_cells (P := P) W t o.type e i0 E.und hi g 0 0 0 ad 0 cap [] (by simp) (by simp) (by simp) (Nat.le_refl _) (by simp) (by simp)
      simpa [World.setCells] using h
theorem gives_weak {P : Program} {o : Oper} {ρ : Operand → Value} {w : World} {R R' : Value → World → Prop} (h : o.gives P ρ w R) (hR : ∀ v w', R v w' → R' v w') : o.gives P ρ w R' := by
  rcases h with ⟨f, args, h1, h2⟩ | ⟨v, w', h1, h2⟩
  · exact .inl ⟨f, args, h1, h2.mono fun e w' ⟨v, h3, h4⟩ => ⟨v, h3, hR _ _ h4⟩⟩
  · exact .inr ⟨v, w', h1, hR _ _ h2⟩
end Go
namespace Go.Proofs.YtomcenfikdmmkaaGreatDoor
open Go.RowKit Kr
set_option linter.unusedSimpArgs false

theorem row_of_nat {w : World} {v : Value} {l : List Nat} (h : IsRow (fun x : Nat => [.int .i64 (x : Int)]) 1 w v l) : IsRow (fun x : Int => [.int .i64 x]) 1 w v (l.map fun x : Nat => (x : Int)) := by
  obtain ⟨p, b, o, cap, rfl, hm, hp, hc⟩ := h.ex
  refine ⟨p, b, o, cap, by rw [List.length_map], by rw [List.length_map]; exact hm, fun h0 => hp (by rw [List.length_map] at h0; exact h0), fun i x hx j u hu => ?_⟩
  rw [List.getElem?_map] at hx
  cases hq : l[i]? with
  | none => rw [hq] at hx; cases hx
  | some q => rw [hq] at hx; cases hx; exact hc i q hq j u hu
theorem LaysAs.ne {W : World} {b c : Nat} {cs ds : Array Value} {t u : TypeId} {f e : Nat × Nat} (h : LaysAs W b (.cells cs t f)) (h2 : LaysAs W c (.cells ds u e)) (hne : t ≠ u) : b ≠ c := fun e => by
  subst e
  unfold LaysAs at h h2
  rw [h] at h2
  simp at h2
  exact hne h2.2.1
/-- Rows of other types lie beside two boxes. -/
theorem RowT.beside {α : Type} {enc : α → List Value} {k : Nat} {t t4 t5 : TypeId} {W : World} {v : Value} {xs : List α} {p4 p5 : Nat} {c4 c5 : Array Value} {f4 f5 : Nat × Nat} (hr : IsRow enc k W v xs) (h : RowT t W v)
    (h4 : LaysAs W p4 (.cells c4 t4 f4)) (h5 : LaysAs W p5 (.cells c5 t5 f5)) (n4 : t ≠ t4) (n5 : t ≠ t5) : RowOff enc k W [p4, p5] v xs :=
  ⟨hr, .inr fun g hg => by
    simp at hg
    rcases hg with rfl | rfl
    · exact h.off h4 n4
    · exact h.off h5 n5⟩
theorem OffT.beside {α : Type} {enc : α → List Value} {k : Nat} {t t4 t5 : TypeId} {W : World} {v : Value} {xs : List α} {p4 p5 : Nat} {c4 c5 : Array Value} {f4 f5 : Nat × Nat} (hr : IsRow enc k W v xs) (h : OffT t 0 W v xs)
    (h4 : LaysAs W p4 (.cells c4 t4 f4)) (h5 : LaysAs W p5 (.cells c5 t5 f5)) (n4 : t ≠ t4) (n5 : t ≠ t5) : RowOff enc k W [p4, p5] v xs := by
  refine ⟨hr, ?_⟩
  rcases h with h | h | h
  · exact .inl h
  · refine .inr fun g _ e => ?_
    have := h g e
    omega
  · exact (RowT.beside hr h h4 h5 n4 n5).off
/-- Nine stores into two boxes. -/
def putTwins (W : World) (p4 p5 : Nat) (g : Gear) (b l r s : Value) : World :=
  (((((((((W.setCell ⟨p4, 0, none⟩ b).setCell ⟨p5, 0, none⟩ l).setCell ⟨p5, 1, none⟩ (.int .i64 g.added)).setCell ⟨p5, 2, none⟩ (.int .i64 g.base)).setCell ⟨p5, 3, none⟩ (.int .i64 g.jitter)).setCell ⟨p5, 4, none⟩ r).setCell ⟨p5, 5, none⟩ s).setCell ⟨p5, 6, none⟩ (.int .i64 g.spread)).setCell ⟨p5, 7, none⟩ (.bool g.stamp))
theorem rowOff_put {α : Type} {enc : α → List Value} {k : Nat} {W : World} {v : Value} {xs : List α} {p4 p5 : Nat} (h : RowOff enc k W [p4, p5] v xs) (g : Gear) (b l r s : Value) : IsRow enc k (putTwins W p4 p5 g b l r s) v xs := by
  unfold putTwins
  refine RowOff.row (G := [p4, p5]) ?_
  iterate 9 refine RowOff.set ?_ (by simp) _
  exact h
/-- What the region of the twins leaves: a bay, gear, a slice, and two boxes. -/
def TwinTwo (ts : List (Kr.Scale × Value)) (g : Gear) (ps : List Int) (b c : Nat) (W : World) (v : Value) : Prop :=
  (c = 1 → ∃ v' ts', v = .agg #[v'] ∧ BayAt W v' ts' ∧ ts'.map Prod.fst = ts.map Prod.fst ∧ (∀ x ∈ ts', RowT 102 W x.2) ∧ OffT 69 0 W v' ts') ∧ (c = 3 → ∃ l r s, v = .agg #[l, .int .i64 g.added, .int .i64 g.base, .int .i64 g.jitter, r, s, .int .i64 g.spread, .bool g.stamp] ∧ GearAt W (g, l, r, s) ∧ RowT 104 W l ∧ RowT 3 W r ∧ RowT 3 W s) ∧
  (c = 4 → ∃ q, v = .slice (some ⟨q, 0, none⟩) 0 0 ∧ LaysAs W q (.cells #[] 3 (0, 0))) ∧
  (c = 6 → IsRow (fun x : Int => [.int .i64 x]) 1 W v ps ∧ RowT 3 W v) ∧
  (c = 7 → ∃ pp, v = .pointer (some ⟨pp, 0, none⟩) ∧ b ≤ pp ∧ LaysAs W pp (.cells [.slice none 0 0].toArray 24 (0, 0))) ∧
  (c = 8 → ∃ pp, v = .pointer (some ⟨pp, 0, none⟩) ∧ b ≤ pp ∧ LaysAs W pp (.cells [.slice none 0 0, .int .i64 0, .int .i64 0, .int .i64 0, .slice none 0 0, .slice none 0 0, .int .i64 0, .bool false].toArray 28 (0, 0)))
theorem TwinTwo.mono {ts : List (Kr.Scale × Value)} {g : Gear} {ps : List Int} {b c : Nat} {W W' : World} {v : Value} (h : TwinTwo ts g ps b c W v) (hE : W.Exts W') : TwinTwo ts g ps b c W' v :=
  ⟨fun e => by obtain ⟨v', ts', h1, h2, h3, h4, h5⟩ := h.1 e; exact ⟨v', ts', h1, h2.mono hE, h3, fun x hx => (h4 x hx).exts hE, h5.exts hE⟩, fun e => by obtain ⟨l, r, s, h1, h2, h3, h4, h5⟩ := h.2.1 e; exact ⟨l, r, s, h1, h2.mono hE, h3.exts hE, h4.exts hE, h5.exts hE⟩,
   fun e => by obtain ⟨q, h1, h2⟩ := h.2.2.1 e; exact ⟨q, h1, h2.exts hE⟩, fun e => ⟨(h.2.2.2.1 e).1.mono hE, (h.2.2.2.1 e).2.exts hE⟩,
   fun e => by obtain ⟨pp, h1, h2, h3⟩ := h.2.2.2.2.1 e; exact ⟨pp, h1, h2, h3.exts hE⟩, fun e => by obtain ⟨pp, h1, h2, h3⟩ := h.2.2.2.2.2 e; exact ⟨pp, h1, h2, h3.exts hE⟩⟩

set_option maxRecDepth 4000 in
set_option maxHeartbeats 4000000 in
theorem l04c_any (ts : List (Kr.Scale × Value)) (v : Value) (g : Gear) (lv rv sv : Value) (g2 : Gear) (lv2 rv2 sv2 : Value) (n : Norm) (pieces : List Int) (pv : Value) (w : World) (hrow : BayAt w v ts)
    (hl : IsRow (fun t : Kr.Load => [.int .i64 t.scale, .int .i64 t.shown]) 2 w lv g.loads) (hr : IsRow (fun x : Int => [.int .i64 x]) 1 w rv g.runners) (hs : IsRow (fun x : Int => [.int .i64 x]) 1 w sv g.strokes) (hwf : ∀ l ∈ g.loads, (Lit.int .i64 l.scale).wf = true)
    (hl2 : IsRow (fun t : Kr.Load => [.int .i64 t.scale, .int .i64 t.shown]) 2 w lv2 g2.loads) (hr2 : IsRow (fun x : Int => [.int .i64 x]) 1 w rv2 g2.runners) (hs2 : IsRow (fun x : Int => [.int .i64 x]) 1 w sv2 g2.strokes) (hwf2 : ∀ l ∈ g2.loads, (Lit.int .i64 l.scale).wf = true) (hp : IsRow (fun x : Int => [.int .i64 x]) 1 w pv pieces) (hcd : CondsAt w) :
    Calls Tryz.prog 3 #[.agg #[v], .agg #[lv, .int .i64 g.added, .int .i64 g.base, .int .i64 g.jitter, rv, sv, .int .i64 g.spread, .bool g.stamp], .agg #[lv2, .int .i64 g2.added, .int .i64 g2.base, .int .i64 g2.jitter, rv2, sv2, .int .i64 g2.spread, .bool g2.stamp], .agg #[.int .i64 n.total.lo, .int .i64 n.total.hi, .int .i64 n.added, .int .i64 n.warm, .int .i64 n.hard.lo, .int .i64 n.hard.hi, .bool n.stamp], pv] w fun e w' => e = .returned (.bool true) ∧ w.Exts w' := by
  have HB := Lib.hid hrow
  clear hrow
  have HL := Lib.hid hl
  clear hl
  have HR := Lib.hid hr
  clear hr
  have HS := Lib.hid hs
  clear hs
  have HL2 := Lib.hid hl2
  clear hl2
  have HR2 := Lib.hid hr2
  clear hr2
  have HS2 := Lib.hid hs2
  clear hs2
  have HP := Lib.hid hp
  clear hp
  have HCD := Lib.hid hcd
  clear hcd
  obtain ⟨q0, cp0, rfl⟩ := HB.out.row.len
  obtain ⟨q1, cp1, rfl⟩ := HL.out.len
  obtain ⟨q2, cp2, rfl⟩ := HR.out.len
  obtain ⟨q3, cp3, rfl⟩ := HS.out.len
  obtain ⟨q4, cp4, rfl⟩ := HL2.out.len
  obtain ⟨q5, cp5, rfl⟩ := HR2.out.len
  obtain ⟨q6, cp6, rfl⟩ := HS2.out.len
  obtain ⟨q7, cp7, rfl⟩ := HP.out.len
  cases hg : great ts g
  case true =>
    have HG := Lib.hid hg
    clear hg
    go_enter Tryz.func3, Tryz.ntmps3
    go_wp2_with (go_at_call 6; refine (r04_Great_any ts _ g _ _ _ _ (HB.out.mono (by repeat' (first | with_reducible exact World.Exts.refl _ | with_reducible refine World.Exts.alloc ?_ _ | with_reducible refine World.Exts.drew ?_ | with_reducible refine World.Exts.drewN ?_ _ | with_reducible refine World.Exts.ext ?_ _ | with_reducible refine World.Exts.setCell ?_ ?_ _ | (simp; done) | exact World.size_ext_le _ _ | (simp; omega)))) (HL.out.mono (by repeat' (first | with_reducible exact World.Exts.refl _ | with_reducible refine World.Exts.alloc ?_ _ | with_reducible refine World.Exts.drew ?_ | with_reducible refine World.Exts.drewN ?_ _ | with_reducible refine World.Exts.ext ?_ _ | with_reducible refine World.Exts.setCell ?_ ?_ _ | (simp; done) | exact World.size_ext_le _ _ | (simp; omega)))) (HR.out.mono (by repeat' (first | with_reducible exact World.Exts.refl _ | with_reducible refine World.Exts.alloc ?_ _ | with_reducible refine World.Exts.drew ?_ | with_reducible refine World.Exts.drewN ?_ _ | with_reducible refine World.Exts.ext ?_ _ | with_reducible refine World.Exts.setCell ?_ ?_ _ | (simp; done) | exact World.size_ext_le _ _ | (simp; omega)))) (HS.out.mono (by repeat' (first | with_reducible exact World.Exts.refl _ | with_reducible refine World.Exts.alloc ?_ _ | with_reducible refine World.Exts.drew ?_ | with_reducible refine World.Exts.drewN ?_ _ | with_reducible refine World.Exts.ext ?_ _ | with_reducible refine World.Exts.setCell ?_ ?_ _ | (simp; done) | exact World.size_ext_le _ _ | (simp; omega))))).mono ?_; rintro e w' ⟨rfl, X2, rfl⟩; rw [HG.out])
    go_ret
    exact ⟨rfl, (by repeat' (first | with_reducible exact World.Exts.refl _ | with_reducible refine World.Exts.alloc ?_ _ | with_reducible refine World.Exts.drew ?_ | with_reducible refine World.Exts.drewN ?_ _ | with_reducible refine World.Exts.ext ?_ _ | with_reducible refine World.Exts.setCell ?_ ?_ _ | (simp; done) | exact World.size_ext_le _ _ | (simp; omega)))⟩
  cases hgl : great ts g2
  case true =>
    have HG := Lib.hid hg
    clear hg
    have HGL := Lib.hid hgl
    clear hgl
    go_enter Tryz.func3, Tryz.ntmps3
    go_wp2_with (first
      | (go_at_call 6; ((with_reducible refine (r04_Great_any ts _ g _ _ _ _ ?hb ?hl ?hr ?hs).mono ?_); (case hb => exact HB.out.mono (by repeat' (first | with_reducible exact World.Exts.refl _ | with_reducible refine World.Exts.alloc ?_ _ | with_reducible refine World.Exts.drew ?_ | with_reducible refine World.Exts.drewN ?_ _ | with_reducible refine World.Exts.ext ?_ _ | with_reducible refine World.Exts.setCell ?_ ?_ _ | (simp; done) | exact World.size_ext_le _ _ | (simp; omega)))); (case hl => exact HL.out.mono (by repeat' (first | with_reducible exact World.Exts.refl _ | with_reducible refine World.Exts.alloc ?_ _ | with_reducible refine World.Exts.drew ?_ | with_reducible refine World.Exts.drewN ?_ _ | with_reducible refine World.Exts.ext ?_ _ | with_reducible refine World.Exts.setCell ?_ ?_ _ | (simp; done) | exact World.size_ext_le _ _ | (simp; omega)))); (case hr => exact HR.out.mono (by repeat' (first | with_reducible exact World.Exts.refl _ | with_reducible refine World.Exts.alloc ?_ _ | with_reducible refine World.Exts.drew ?_ | with_reducible refine World.Exts.drewN ?_ _ | with_reducible refine World.Exts.ext ?_ _ | with_reducible refine World.Exts.setCell ?_ ?_ _ | (simp; done) | exact World.size_ext_le _ _ | (simp; omega)))); (case hs => exact HS.out.mono (by repeat' (first | with_reducible exact World.Exts.refl _ | with_reducible refine World.Exts.alloc ?_ _ | with_reducible refine World.Exts.drew ?_ | with_reducible refine World.Exts.drewN ?_ _ | with_reducible refine World.Exts.ext ?_ _ | with_reducible refine World.Exts.setCell ?_ ?_ _ | (simp; done) | exact World.size_ext_le _ _ | (simp; omega)))); rintro e w' ⟨rfl, X2, rfl⟩; rw [HG.out]))
      | (go_at_call 6; ((with_reducible refine (r04_Great_any ts _ g2 _ _ _ _ ?hb ?hl ?hr ?hs).mono ?_); (case hb => exact HB.out.mono (by repeat' (first | with_reducible exact World.Exts.refl _ | with_reducible refine World.Exts.alloc ?_ _ | with_reducible refine World.Exts.drew ?_ | with_reducible refine World.Exts.drewN ?_ _ | with_reducible refine World.Exts.ext ?_ _ | with_reducible refine World.Exts.setCell ?_ ?_ _ | (simp; done) | exact World.size_ext_le _ _ | (simp; omega)))); (case hl => exact HL2.out.mono (by repeat' (first | with_reducible exact World.Exts.refl _ | with_reducible refine World.Exts.alloc ?_ _ | with_reducible refine World.Exts.drew ?_ | with_reducible refine World.Exts.drewN ?_ _ | with_reducible refine World.Exts.ext ?_ _ | with_reducible refine World.Exts.setCell ?_ ?_ _ | (simp; done) | exact World.size_ext_le _ _ | (simp; omega)))); (case hr => exact HR2.out.mono (by repeat' (first | with_reducible exact World.Exts.refl _ | with_reducible refine World.Exts.alloc ?_ _ | with_reducible refine World.Exts.drew ?_ | with_reducible refine World.Exts.drewN ?_ _ | with_reducible refine World.Exts.ext ?_ _ | with_reducible refine World.Exts.setCell ?_ ?_ _ | (simp; done) | exact World.size_ext_le _ _ | (simp; omega)))); (case hs => exact HS2.out.mono (by repeat' (first | with_reducible exact World.Exts.refl _ | with_reducible refine World.Exts.alloc ?_ _ | with_reducible refine World.Exts.drew ?_ | with_reducible refine World.Exts.drewN ?_ _ | with_reducible refine World.Exts.ext ?_ _ | with_reducible refine World.Exts.setCell ?_ ?_ _ | (simp; done) | exact World.size_ext_le _ _ | (simp; omega)))); rintro e w' ⟨rfl, X3, rfl⟩; rw [HGL.out])))
    go_ret
    exact ⟨rfl, (by repeat' (first | with_reducible exact World.Exts.refl _ | with_reducible refine World.Exts.alloc ?_ _ | with_reducible refine World.Exts.drew ?_ | with_reducible refine World.Exts.drewN ?_ _ | with_reducible refine World.Exts.ext ?_ _ | with_reducible refine World.Exts.setCell ?_ ?_ _ | (simp; done) | exact World.size_ext_le _ _ | (simp; omega)))⟩
  have hgear : GearAt w (g, .slice q1 g.loads.length cp1, .slice q2 g.runners.length cp2, .slice q3 g.strokes.length cp3) :=
    ⟨HL.out, HR.out, HS.out, by simp [great] at hg; dsimp only; omega, hwf⟩
  have hgear2 : GearAt w (g2, .slice q4 g2.loads.length cp4, .slice q5 g2.runners.length cp5, .slice q6 g2.strokes.length cp6) :=
    ⟨HL2.out, HR2.out, HS2.out, by simp [great] at hgl; dsimp only; omega, hwf2⟩
  have hbl : ts.length ≤ 1000 ∧ (∀ x ∈ ts, x.1.trials.length ≤ 1000) ∧ g.loads.length ≤ 1000 ∧ g.runners.length ≤ 1000 ∧ g.strokes.length ≤ 1000 := by
    simp [great] at hg
    obtain ⟨g1, g2⟩ := hg
    refine ⟨by omega, fun x hx => ?_, by omega, by omega, by omega⟩
    have := g2 x.1 x.2 hx
    omega
  obtain ⟨b1, b2, b3, b4, b5⟩ := hbl
  rcases Nat.lt_or_ge 12 pieces.length with h12 | h12
  · --[I
    have HG := Lib.hid hg
    clear hg
    have HGL := Lib.hid hgl
    clear hgl
    clear hgear hgear2 b2 hwf hwf2
    go_enter Tryz.func3, Tryz.ntmps3
    go_wp2_with (first
      | (go_at_call 6; ((with_reducible refine (r04_Great_any ts _ g _ _ _ _ ?hb ?hl ?hr ?hs).mono ?_); (case hb => exact HB.out.mono (by repeat' (first | with_reducible exact World.Exts.refl _ | with_reducible refine World.Exts.alloc ?_ _ | with_reducible refine World.Exts.drew ?_ | with_reducible refine World.Exts.drewN ?_ _ | with_reducible refine World.Exts.ext ?_ _ | with_reducible refine World.Exts.setCell ?_ ?_ _ | (simp; done) | exact World.size_ext_le _ _ | (simp; omega)))); (case hl => exact HL.out.mono (by repeat' (first | with_reducible exact World.Exts.refl _ | with_reducible refine World.Exts.alloc ?_ _ | with_reducible refine World.Exts.drew ?_ | with_reducible refine World.Exts.drewN ?_ _ | with_reducible refine World.Exts.ext ?_ _ | with_reducible refine World.Exts.setCell ?_ ?_ _ | (simp; done) | exact World.size_ext_le _ _ | (simp; omega)))); (case hr => exact HR.out.mono (by repeat' (first | with_reducible exact World.Exts.refl _ | with_reducible refine World.Exts.alloc ?_ _ | with_reducible refine World.Exts.drew ?_ | with_reducible refine World.Exts.drewN ?_ _ | with_reducible refine World.Exts.ext ?_ _ | with_reducible refine World.Exts.setCell ?_ ?_ _ | (simp; done) | exact World.size_ext_le _ _ | (simp; omega)))); (case hs => exact HS.out.mono (by repeat' (first | with_reducible exact World.Exts.refl _ | with_reducible refine World.Exts.alloc ?_ _ | with_reducible refine World.Exts.drew ?_ | with_reducible refine World.Exts.drewN ?_ _ | with_reducible refine World.Exts.ext ?_ _ | with_reducible refine World.Exts.setCell ?_ ?_ _ | (simp; done) | exact World.size_ext_le _ _ | (simp; omega)))); rintro e w' ⟨rfl, X2, rfl⟩; rw [HG.out]))
      | (go_at_call 6; ((with_reducible refine (r04_Great_any ts _ g2 _ _ _ _ ?hb ?hl ?hr ?hs).mono ?_); (case hb => exact HB.out.mono (by repeat' (first | with_reducible exact World.Exts.refl _ | with_reducible refine World.Exts.alloc ?_ _ | with_reducible refine World.Exts.drew ?_ | with_reducible refine World.Exts.drewN ?_ _ | with_reducible refine World.Exts.ext ?_ _ | with_reducible refine World.Exts.setCell ?_ ?_ _ | (simp; done) | exact World.size_ext_le _ _ | (simp; omega)))); (case hl => exact HL2.out.mono (by repeat' (first | with_reducible exact World.Exts.refl _ | with_reducible refine World.Exts.alloc ?_ _ | with_reducible refine World.Exts.drew ?_ | with_reducible refine World.Exts.drewN ?_ _ | with_reducible refine World.Exts.ext ?_ _ | with_reducible refine World.Exts.setCell ?_ ?_ _ | (simp; done) | exact World.size_ext_le _ _ | (simp; omega)))); (case hr => exact HR2.out.mono (by repeat' (first | with_reducible exact World.Exts.refl _ | with_reducible refine World.Exts.alloc ?_ _ | with_reducible refine World.Exts.drew ?_ | with_reducible refine World.Exts.drewN ?_ _ | with_reducible refine World.Exts.ext ?_ _ | with_reducible refine World.Exts.setCell ?_ ?_ _ | (simp; done) | exact World.size_ext_le _ _ | (simp; omega)))); (case hs => exact HS2.out.mono (by repeat' (first | with_reducible exact World.Exts.refl _ | with_reducible refine World.Exts.alloc ?_ _ | with_reducible refine World.Exts.drew ?_ | with_reducible refine World.Exts.drewN ?_ _ | with_reducible refine World.Exts.ext ?_ _ | with_reducible refine World.Exts.setCell ?_ ?_ _ | (simp; done) | exact World.size_ext_le _ _ | (simp; omega)))); rintro e w' ⟨rfl, X3, rfl⟩; rw [HGL.out])))
    go_ret
    exact ⟨rfl, (by repeat' (first | with_reducible exact World.Exts.refl _ | with_reducible refine World.Exts.alloc ?_ _ | with_reducible refine World.Exts.drew ?_ | with_reducible refine World.Exts.drewN ?_ _ | with_reducible refine World.Exts.ext ?_ _ | with_reducible refine World.Exts.setCell ?_ ?_ _ | (simp; done) | exact World.size_ext_le _ _ | (simp; omega)))⟩
  have HG := Lib.hid hg
  clear hg
  have HGL := Lib.hid hgl
  clear hgl
  have HGA := Lib.hid hgear
  clear hgear
  have HGA2 := Lib.hid hgear2
  clear hgear2
  have HB2 := Lib.hid b2
  clear b2
  clear hwf hwf2
  go_enter Tryz.func3, Tryz.ntmps3
  go_wp2_with (first
      | (go_at_call 6; ((with_reducible refine (r04_Great_any ts _ g _ _ _ _ ?hb ?hl ?hr ?hs).mono ?_); (case hb => exact HB.out.mono (by repeat' (first | with_reducible exact World.Exts.refl _ | with_reducible refine World.Exts.alloc ?_ _ | with_reducible refine World.Exts.drew ?_ | with_reducible refine World.Exts.drewN ?_ _ | with_reducible refine World.Exts.ext ?_ _ | with_reducible refine World.Exts.setCell ?_ ?_ _ | (simp; done) | exact World.size_ext_le _ _ | (simp; omega)))); (case hl => exact HL.out.mono (by repeat' (first | with_reducible exact World.Exts.refl _ | with_reducible refine World.Exts.alloc ?_ _ | with_reducible refine World.Exts.drew ?_ | with_reducible refine World.Exts.drewN ?_ _ | with_reducible refine World.Exts.ext ?_ _ | with_reducible refine World.Exts.setCell ?_ ?_ _ | (simp; done) | exact World.size_ext_le _ _ | (simp; omega)))); (case hr => exact HR.out.mono (by repeat' (first | with_reducible exact World.Exts.refl _ | with_reducible refine World.Exts.alloc ?_ _ | with_reducible refine World.Exts.drew ?_ | with_reducible refine World.Exts.drewN ?_ _ | with_reducible refine World.Exts.ext ?_ _ | with_reducible refine World.Exts.setCell ?_ ?_ _ | (simp; done) | exact World.size_ext_le _ _ | (simp; omega)))); (case hs => exact HS.out.mono (by repeat' (first | with_reducible exact World.Exts.refl _ | with_reducible refine World.Exts.alloc ?_ _ | with_reducible refine World.Exts.drew ?_ | with_reducible refine World.Exts.drewN ?_ _ | with_reducible refine World.Exts.ext ?_ _ | with_reducible refine World.Exts.setCell ?_ ?_ _ | (simp; done) | exact World.size_ext_le _ _ | (simp; omega)))); rintro e w' ⟨rfl, X2, rfl⟩; rw [HG.out]))
      | (go_at_call 6; ((with_reducible refine (r04_Great_any ts _ g2 _ _ _ _ ?hb ?hl ?hr ?hs).mono ?_); (case hb => exact HB.out.mono (by repeat' (first | with_reducible exact World.Exts.refl _ | with_reducible refine World.Exts.alloc ?_ _ | with_reducible refine World.Exts.drew ?_ | with_reducible refine World.Exts.drewN ?_ _ | with_reducible refine World.Exts.ext ?_ _ | with_reducible refine World.Exts.setCell ?_ ?_ _ | (simp; done) | exact World.size_ext_le _ _ | (simp; omega)))); (case hl => exact HL2.out.mono (by repeat' (first | with_reducible exact World.Exts.refl _ | with_reducible refine World.Exts.alloc ?_ _ | with_reducible refine World.Exts.drew ?_ | with_reducible refine World.Exts.drewN ?_ _ | with_reducible refine World.Exts.ext ?_ _ | with_reducible refine World.Exts.setCell ?_ ?_ _ | (simp; done) | exact World.size_ext_le _ _ | (simp; omega)))); (case hr => exact HR2.out.mono (by repeat' (first | with_reducible exact World.Exts.refl _ | with_reducible refine World.Exts.alloc ?_ _ | with_reducible refine World.Exts.drew ?_ | with_reducible refine World.Exts.drewN ?_ _ | with_reducible refine World.Exts.ext ?_ _ | with_reducible refine World.Exts.setCell ?_ ?_ _ | (simp; done) | exact World.size_ext_le _ _ | (simp; omega)))); (case hs => exact HS2.out.mono (by repeat' (first | with_reducible exact World.Exts.refl _ | with_reducible refine World.Exts.alloc ?_ _ | with_reducible refine World.Exts.drew ?_ | with_reducible refine World.Exts.drewN ?_ _ | with_reducible refine World.Exts.ext ?_ _ | with_reducible refine World.Exts.setCell ?_ ?_ _ | (simp; done) | exact World.size_ext_le _ _ | (simp; omega)))); rintro e w' ⟨rfl, X3, rfl⟩; rw [HGL.out])))
  refine wp_region_calls 9 (fun i => i == 1 || i == 3 || i == 4 || i == 6 || i == 7 || i == 8) (fun c v W => TwinTwo ts g pieces (w.heap.size + 4) c W v) (by kernel_rfl) (fun ν => by kernel_rfl) (by kernel_rfl) (by kernel_rfl) (by kernel_rfl) (by kernel_rfl) ?mono ?_
  rotate_left 1
  apply Exists.intro
  refine ⟨fun ν L hL => ?_, fun c oc hc hU ν W hE hΦ => ?_, fun ν W hE hΦ => ?_⟩
  · simp only [modU, cOp, List.mapIdx_cons, List.mapIdx_nil, Nat.zero_add, Nat.reduceAdd, Nat.reduceBEq, Bool.or_false, Bool.false_or, Bool.or_true, Bool.true_or, Bool.or_self, Bool.false_eq_true, if_false, if_true, List.take_succ_cons, List.take_zero]
    repeat (go_big_quiet_step (fail))
    exact wpQuiet_nil hL
  · simp at hU
    have hwW : w.Exts W := World.Exts.trans (by repeat' (first | with_reducible exact World.Exts.refl _ | with_reducible refine World.Exts.alloc ?_ _ | with_reducible refine World.Exts.drew ?_ | with_reducible refine World.Exts.drewN ?_ _ | with_reducible refine World.Exts.ext ?_ _ | with_reducible refine World.Exts.setCell ?_ ?_ _ | (simp; done) | exact World.size_ext_le _ _ | (simp; omega))) hE
    have hsz2 : w.heap.size + 4 ≤ W.heap.size := by
      have h1 := hE.size
      have h2 := World.size_ext_le _ X2
      have h3 := World.size_ext_le _ X3
      simp at h2 h3
      omega
    rcases hU with ((((rfl | rfl) | rfl) | rfl) | rfl) | rfl
    · simp only [List.getElem?_cons_succ, List.getElem?_cons_zero, Option.some.injEq] at hc
      subst hc
      refine Oper.gives_fn rfl rfl rfl (enters_of Tryz.func7 (by kernel_rfl) rfl) ?_ rfl
      refine (r04_TwinBay_own ts _ W (HB.out.mono hwW) b1 HB2.out).mono ?_
      rintro e W' ⟨v', ts', rfl, h1, h2, h3, h4, h5⟩
      exact ⟨_, rfl, h3, fun _ => ⟨v', ts', rfl, h1, h2, h4, h5⟩, fun e => (by cases e), fun e => (by cases e), fun e => (by cases e), fun e => (by cases e), fun e => (by cases e)⟩
    · simp only [List.getElem?_cons_succ, List.getElem?_cons_zero, Option.some.injEq] at hc
      subst hc
      refine Oper.gives_fn rfl rfl rfl (enters_of Tryz.func8 (by kernel_rfl) rfl) ?_ rfl
      refine (r04_TwinGear_own g _ _ _ W (HGA.out.mono hwW) b3 b4 b5).mono ?_
      rintro e W' ⟨l', r', s', rfl, h1, h2, h3, h4, h5⟩
      exact ⟨_, rfl, h2, fun e => (by cases e), fun _ => ⟨l', r', s', rfl, h1, h3, h4, h5⟩, fun e => (by cases e), fun e => (by cases e), fun e => (by cases e), fun e => (by cases e)⟩
    · simp only [List.getElem?_cons_succ, List.getElem?_cons_zero, Option.some.injEq] at hc
      subst hc
      refine .inr ⟨.slice (some ⟨W.heap.size, 0, none⟩) 0 0, W.alloc (.cells #[] 3), by kernel_rfl, (by repeat' (first | with_reducible exact World.Exts.refl _ | with_reducible refine World.Exts.alloc ?_ _ | with_reducible refine World.Exts.drew ?_ | with_reducible refine World.Exts.drewN ?_ _ | with_reducible refine World.Exts.ext ?_ _ | with_reducible refine World.Exts.setCell ?_ ?_ _ | (simp; done) | exact World.size_ext_le _ _ | (simp; omega))), fun e => (by cases e), fun e => (by cases e), fun _ => ⟨_, rfl, laysAs_size W _ rfl⟩, fun e => (by cases e), fun e => (by cases e), fun e => (by cases e)⟩
    · simp only [List.getElem?_cons_succ, List.getElem?_cons_zero, Option.some.injEq] at hc
      subst hc
      obtain ⟨q, hν4, hq⟩ := (hΦ 4 rfl ⟨⟨4, .data⟩, by simp, rfl, rfl⟩).2.2.1 rfl
      generalize ν 4 = v4 at *
      subst hν4
      have hpW := HP.out.mono hwW
      refine gives_weak (gives_append_none elem_int rfl rfl hq rfl hpW (fun _ _ => rfl) (fun _ _ u hu => by simp at hu; subst hu; rfl) (by omega)) ?_
      exact fun v W' ⟨h1, h2, h3⟩ => ⟨h1, fun e => (by cases e), fun e => (by cases e), fun e => (by cases e), fun _ => ⟨h2, h3⟩, fun e => (by cases e), fun e => (by cases e)⟩
    · simp only [List.getElem?_cons_succ, List.getElem?_cons_zero, Option.some.injEq] at hc
      subst hc
      refine .inr ⟨.pointer (some ⟨W.heap.size, 0, none⟩), W.alloc (.cells #[.slice none 0 0] 24), by kernel_rfl, (by repeat' (first | with_reducible exact World.Exts.refl _ | with_reducible refine World.Exts.alloc ?_ _ | with_reducible refine World.Exts.drew ?_ | with_reducible refine World.Exts.drewN ?_ _ | with_reducible refine World.Exts.ext ?_ _ | with_reducible refine World.Exts.setCell ?_ ?_ _ | (simp; done) | exact World.size_ext_le _ _ | (simp; omega))), fun e => (by cases e), fun e => (by cases e), fun e => (by cases e), fun e => (by cases e), fun _ => ⟨_, rfl, hsz2, laysAs_size W _ rfl⟩, fun e => (by cases e)⟩
    · simp only [List.getElem?_cons_succ, List.getElem?_cons_zero, Option.some.injEq] at hc
      subst hc
      refine .inr ⟨.pointer (some ⟨W.heap.size, 0, none⟩), W.alloc (.cells #[.slice none 0 0, .int .i64 0, .int .i64 0, .int .i64 0, .slice none 0 0, .slice none 0 0, .int .i64 0, .bool false] 28), by kernel_rfl, (by repeat' (first | with_reducible exact World.Exts.refl _ | with_reducible refine World.Exts.alloc ?_ _ | with_reducible refine World.Exts.drew ?_ | with_reducible refine World.Exts.drewN ?_ _ | with_reducible refine World.Exts.ext ?_ _ | with_reducible refine World.Exts.setCell ?_ ?_ _ | (simp; done) | exact World.size_ext_le _ _ | (simp; omega))), fun e => (by cases e), fun e => (by cases e), fun e => (by cases e), fun e => (by cases e), fun e => (by cases e), fun _ => ⟨_, rfl, hsz2, laysAs_size W _ rfl⟩⟩
  · obtain ⟨vb, ts', hν1, hbA, hts, hbT, hbS⟩ := (hΦ 1 (by decide) rfl).1 rfl
    obtain ⟨l', r', s', hν3, hgA, hT1, hT2, hT3⟩ := (hΦ 3 (by decide) rfl).2.1 rfl
    obtain ⟨hpA, hT4⟩ := (hΦ 6 (by decide) rfl).2.2.2.1 rfl
    obtain ⟨p4, hν4, hb4, hp4⟩ := (hΦ 7 (by decide) rfl).2.2.2.2.1 rfl
    obtain ⟨p5, hν5, hb5, hp5⟩ := (hΦ 8 (by decide) rfl).2.2.2.2.2 rfl
    have hne : p4 ≠ p5 := fun e => by
      subst e
      unfold LaysAs at hp4 hp5
      rw [hp4] at hp5
      simp at hp5
    have hwW3 : w.Exts W := World.Exts.trans (by repeat' (first | with_reducible exact World.Exts.refl _ | with_reducible refine World.Exts.alloc ?_ _ | with_reducible refine World.Exts.drew ?_ | with_reducible refine World.Exts.drewN ?_ _ | with_reducible refine World.Exts.ext ?_ _ | with_reducible refine World.Exts.setCell ?_ ?_ _ | (simp; done) | exact World.size_ext_le _ _ | (simp; omega))) hE
    simp only [List.drop_succ_cons, List.drop_zero]
    generalize ν 1 = v1 at hν1 ⊢
    generalize ν 3 = v3 at hν3 ⊢
    generalize ν 6 = v6 at hpA hT4 ⊢
    generalize ν 7 = v7 at hν4 ⊢
    generalize ν 8 = v8 at hν5 ⊢
    generalize ν 4 = v4
    subst hν1 hν3 hν4 hν5
    have hbA2 : BayAt (putTwins W p4 p5 g vb l' r' s') vb ts' := ⟨rowOff_put (OffT.beside hbA.row hbS hp4 hp5 (by decide) (by decide)) g vb l' r' s', fun x hx => rowOff_put (RowT.beside (hbA.tr x hx) (hbT x hx) hp4 hp5 (by decide) (by decide)) g vb l' r' s'⟩
    have hgA2 : GearAt (putTwins W p4 p5 g vb l' r' s') (g, l', r', s') := ⟨rowOff_put (RowT.beside hgA.l hT1 hp4 hp5 (by decide) (by decide)) g vb l' r' s', rowOff_put (RowT.beside hgA.r hT2 hp4 hp5 (by decide) (by decide)) g vb l' r' s', rowOff_put (RowT.beside hgA.s hT3 hp4 hp5 (by decide) (by decide)) g vb l' r' s', hgA.len, hgA.wf⟩
    have hpA2 := rowOff_put (RowT.beside hpA hT4 hp4 hp5 (by decide) (by decide)) g vb l' r' s'
    have hEV : w.Exts (putTwins W p4 p5 g vb l' r' s') := by
      unfold putTwins
      iterate 9 refine World.Exts.setCell ?_ (by dsimp only; omega) _
      exact hwW3
    obtain ⟨qb, cb, rfl⟩ := hbA2.row.len
    obtain ⟨ql, cl, e1⟩ : ∃ p c, l' = .slice p g.loads.length c := hgA2.l.len
    obtain ⟨qr, cr, e2⟩ : ∃ p c, r' = .slice p g.runners.length c := hgA2.r.len
    obtain ⟨qs, cs, e3⟩ : ∃ p c, s' = .slice p g.strokes.length c := hgA2.s.len
    obtain ⟨qp, cp, rfl⟩ := hpA2.len
    subst e1 e2 e3
    have c4 := LaysAs.cell hp4 0 _ rfl
    have c50 := LaysAs.cell hp5 0 _ rfl
    have c51 := LaysAs.cell hp5 1 _ rfl
    have c52 := LaysAs.cell hp5 2 _ rfl
    have c53 := LaysAs.cell hp5 3 _ rfl
    have c54 := LaysAs.cell hp5 4 _ rfl
    have c55 := LaysAs.cell hp5 5 _ rfl
    have c56 := LaysAs.cell hp5 6 _ rfl
    have c57 := LaysAs.cell hp5 7 _ rfl
    have hfr4 : W.frozen? ⟨p4, 0, none⟩ = false := by unfold LaysAs at hp4; simp [World.frozen?, hp4]
    have hfr5 : ∀ i, W.frozen? ⟨p5, i, none⟩ = false := fun i => by unfold LaysAs at hp5; simp [World.frozen?, hp5]
    have hl4 := Lays.of_cell c4
    have hl5 := Lays.of_cell c50
    haveI : Differ p4 p5 := ⟨hne⟩
    haveI : Differ p5 p4 := ⟨fun e => hne e.symm⟩
    have hf50 := hfr5 0
    have hf51 := hfr5 1
    have hf52 := hfr5 2
    have hf53 := hfr5 3
    have hf54 := hfr5 4
    have hf55 := hfr5 5
    have hf56 := hfr5 6
    have hf57 := hfr5 7
    have o00W : W.cell? ⟨w.heap.size, 0, none⟩ = some (.slice q0 ts.length cp0) := by obtain ⟨XX, rfl⟩ := hE; simp [go_sem]
    have o10W : W.cell? ⟨w.heap.size + 1, 0, none⟩ = some (.slice q1 g.loads.length cp1) := by obtain ⟨XX, rfl⟩ := hE; simp [go_sem]
    have o11W : W.cell? ⟨w.heap.size + 1, 1, none⟩ = some (.int .i64 g.added) := by obtain ⟨XX, rfl⟩ := hE; simp [go_sem]
    have o12W : W.cell? ⟨w.heap.size + 1, 2, none⟩ = some (.int .i64 g.base) := by obtain ⟨XX, rfl⟩ := hE; simp [go_sem]
    have o13W : W.cell? ⟨w.heap.size + 1, 3, none⟩ = some (.int .i64 g.jitter) := by obtain ⟨XX, rfl⟩ := hE; simp [go_sem]
    have o14W : W.cell? ⟨w.heap.size + 1, 4, none⟩ = some (.slice q2 g.runners.length cp2) := by obtain ⟨XX, rfl⟩ := hE; simp [go_sem]
    have o15W : W.cell? ⟨w.heap.size + 1, 5, none⟩ = some (.slice q3 g.strokes.length cp3) := by obtain ⟨XX, rfl⟩ := hE; simp [go_sem]
    have o16W : W.cell? ⟨w.heap.size + 1, 6, none⟩ = some (.int .i64 g.spread) := by obtain ⟨XX, rfl⟩ := hE; simp [go_sem]
    have o17W : W.cell? ⟨w.heap.size + 1, 7, none⟩ = some (.bool g.stamp) := by obtain ⟨XX, rfl⟩ := hE; simp [go_sem]
    have o20W : W.cell? ⟨w.heap.size + 1 + 1, 0, none⟩ = some (.slice q4 g2.loads.length cp4) := by obtain ⟨XX, rfl⟩ := hE; simp [go_sem]
    have o21W : W.cell? ⟨w.heap.size + 1 + 1, 1, none⟩ = some (.int .i64 g2.added) := by obtain ⟨XX, rfl⟩ := hE; simp [go_sem]
    have o22W : W.cell? ⟨w.heap.size + 1 + 1, 2, none⟩ = some (.int .i64 g2.base) := by obtain ⟨XX, rfl⟩ := hE; simp [go_sem]
    have o23W : W.cell? ⟨w.heap.size + 1 + 1, 3, none⟩ = some (.int .i64 g2.jitter) := by obtain ⟨XX, rfl⟩ := hE; simp [go_sem]
    have o24W : W.cell? ⟨w.heap.size + 1 + 1, 4, none⟩ = some (.slice q5 g2.runners.length cp5) := by obtain ⟨XX, rfl⟩ := hE; simp [go_sem]
    have o25W : W.cell? ⟨w.heap.size + 1 + 1, 5, none⟩ = some (.slice q6 g2.strokes.length cp6) := by obtain ⟨XX, rfl⟩ := hE; simp [go_sem]
    have o26W : W.cell? ⟨w.heap.size + 1 + 1, 6, none⟩ = some (.int .i64 g2.spread) := by obtain ⟨XX, rfl⟩ := hE; simp [go_sem]
    have o27W : W.cell? ⟨w.heap.size + 1 + 1, 7, none⟩ = some (.bool g2.stamp) := by obtain ⟨XX, rfl⟩ := hE; simp [go_sem]
    have o30W : W.cell? ⟨w.heap.size + 1 + 1 + 1, 0, none⟩ = some (.int .i64 n.total.lo) := by obtain ⟨XX, rfl⟩ := hE; simp [go_sem]
    have o31W : W.cell? ⟨w.heap.size + 1 + 1 + 1, 1, none⟩ = some (.int .i64 n.total.hi) := by obtain ⟨XX, rfl⟩ := hE; simp [go_sem]
    have o32W : W.cell? ⟨w.heap.size + 1 + 1 + 1, 2, none⟩ = some (.int .i64 n.added) := by obtain ⟨XX, rfl⟩ := hE; simp [go_sem]
    have o33W : W.cell? ⟨w.heap.size + 1 + 1 + 1, 3, none⟩ = some (.int .i64 n.warm) := by obtain ⟨XX, rfl⟩ := hE; simp [go_sem]
    have o34W : W.cell? ⟨w.heap.size + 1 + 1 + 1, 4, none⟩ = some (.int .i64 n.hard.lo) := by obtain ⟨XX, rfl⟩ := hE; simp [go_sem]
    have o35W : W.cell? ⟨w.heap.size + 1 + 1 + 1, 5, none⟩ = some (.int .i64 n.hard.hi) := by obtain ⟨XX, rfl⟩ := hE; simp [go_sem]
    have o36W : W.cell? ⟨w.heap.size + 1 + 1 + 1, 6, none⟩ = some (.bool n.stamp) := by obtain ⟨XX, rfl⟩ := hE; simp [go_sem]
    haveI : Differ p4 (w.heap.size) := ⟨by omega⟩
    haveI : Differ p5 (w.heap.size) := ⟨by omega⟩
    haveI : Differ p4 (w.heap.size + 1) := ⟨by omega⟩
    haveI : Differ p5 (w.heap.size + 1) := ⟨by omega⟩
    haveI : Differ p4 (w.heap.size + 1 + 1) := ⟨by omega⟩
    haveI : Differ p5 (w.heap.size + 1 + 1) := ⟨by omega⟩
    haveI : Differ p4 (w.heap.size + 1 + 1 + 1) := ⟨by omega⟩
    haveI : Differ p5 (w.heap.size + 1 + 1 + 1) := ⟨by omega⟩
    obtain ⟨V, hV⟩ : ∃ V, putTwins W p4 p5 g (.slice qb ts'.length cb) (.slice ql g.loads.length cl) (.slice qr g.runners.length cr) (.slice qs g.strokes.length cs) = V := ⟨_, rfl⟩
    have r4 : V.cell? ⟨p4, 0, none⟩ = some (.slice qb ts'.length cb) := by rw [← hV]; simp [putTwins, go_sem, c4]
    have r50 : V.cell? ⟨p5, 0, none⟩ = some (.slice ql g.loads.length cl) := by rw [← hV]; simp [putTwins, go_sem, c50]
    have r51 : V.cell? ⟨p5, 1, none⟩ = some (.int .i64 g.added) := by rw [← hV]; simp [putTwins, go_sem, c51]
    have r52 : V.cell? ⟨p5, 2, none⟩ = some (.int .i64 g.base) := by rw [← hV]; simp [putTwins, go_sem, c52]
    have r53 : V.cell? ⟨p5, 3, none⟩ = some (.int .i64 g.jitter) := by rw [← hV]; simp [putTwins, go_sem, c53]
    have r54 : V.cell? ⟨p5, 4, none⟩ = some (.slice qr g.runners.length cr) := by rw [← hV]; simp [putTwins, go_sem, c54]
    have r55 : V.cell? ⟨p5, 5, none⟩ = some (.slice qs g.strokes.length cs) := by rw [← hV]; simp [putTwins, go_sem, c55]
    have r56 : V.cell? ⟨p5, 6, none⟩ = some (.int .i64 g.spread) := by rw [← hV]; simp [putTwins, go_sem, c56]
    have r57 : V.cell? ⟨p5, 7, none⟩ = some (.bool g.stamp) := by rw [← hV]; simp [putTwins, go_sem, c57]
    have o00 : V.cell? ⟨w.heap.size, 0, none⟩ = some (.slice q0 ts.length cp0) := by rw [← hV]; simp [putTwins, go_sem, o00W]
    have o10 : V.cell? ⟨w.heap.size + 1, 0, none⟩ = some (.slice q1 g.loads.length cp1) := by rw [← hV]; simp [putTwins, go_sem, o10W]
    have o11 : V.cell? ⟨w.heap.size + 1, 1, none⟩ = some (.int .i64 g.added) := by rw [← hV]; simp [putTwins, go_sem, o11W]
    have o12 : V.cell? ⟨w.heap.size + 1, 2, none⟩ = some (.int .i64 g.base) := by rw [← hV]; simp [putTwins, go_sem, o12W]
    have o13 : V.cell? ⟨w.heap.size + 1, 3, none⟩ = some (.int .i64 g.jitter) := by rw [← hV]; simp [putTwins, go_sem, o13W]
    have o14 : V.cell? ⟨w.heap.size + 1, 4, none⟩ = some (.slice q2 g.runners.length cp2) := by rw [← hV]; simp [putTwins, go_sem, o14W]
    have o15 : V.cell? ⟨w.heap.size + 1, 5, none⟩ = some (.slice q3 g.strokes.length cp3) := by rw [← hV]; simp [putTwins, go_sem, o15W]
    have o16 : V.cell? ⟨w.heap.size + 1, 6, none⟩ = some (.int .i64 g.spread) := by rw [← hV]; simp [putTwins, go_sem, o16W]
    have o17 : V.cell? ⟨w.heap.size + 1, 7, none⟩ = some (.bool g.stamp) := by rw [← hV]; simp [putTwins, go_sem, o17W]
    have o20 : V.cell? ⟨w.heap.size + 1 + 1, 0, none⟩ = some (.slice q4 g2.loads.length cp4) := by rw [← hV]; simp [putTwins, go_sem, o20W]
    have o21 : V.cell? ⟨w.heap.size + 1 + 1, 1, none⟩ = some (.int .i64 g2.added) := by rw [← hV]; simp [putTwins, go_sem, o21W]
    have o22 : V.cell? ⟨w.heap.size + 1 + 1, 2, none⟩ = some (.int .i64 g2.base) := by rw [← hV]; simp [putTwins, go_sem, o22W]
    have o23 : V.cell? ⟨w.heap.size + 1 + 1, 3, none⟩ = some (.int .i64 g2.jitter) := by rw [← hV]; simp [putTwins, go_sem, o23W]
    have o24 : V.cell? ⟨w.heap.size + 1 + 1, 4, none⟩ = some (.slice q5 g2.runners.length cp5) := by rw [← hV]; simp [putTwins, go_sem, o24W]
    have o25 : V.cell? ⟨w.heap.size + 1 + 1, 5, none⟩ = some (.slice q6 g2.strokes.length cp6) := by rw [← hV]; simp [putTwins, go_sem, o25W]
    have o26 : V.cell? ⟨w.heap.size + 1 + 1, 6, none⟩ = some (.int .i64 g2.spread) := by rw [← hV]; simp [putTwins, go_sem, o26W]
    have o27 : V.cell? ⟨w.heap.size + 1 + 1, 7, none⟩ = some (.bool g2.stamp) := by rw [← hV]; simp [putTwins, go_sem, o27W]
    have o30 : V.cell? ⟨w.heap.size + 1 + 1 + 1, 0, none⟩ = some (.int .i64 n.total.lo) := by rw [← hV]; simp [putTwins, go_sem, o30W]
    have o31 : V.cell? ⟨w.heap.size + 1 + 1 + 1, 1, none⟩ = some (.int .i64 n.total.hi) := by rw [← hV]; simp [putTwins, go_sem, o31W]
    have o32 : V.cell? ⟨w.heap.size + 1 + 1 + 1, 2, none⟩ = some (.int .i64 n.added) := by rw [← hV]; simp [putTwins, go_sem, o32W]
    have o33 : V.cell? ⟨w.heap.size + 1 + 1 + 1, 3, none⟩ = some (.int .i64 n.warm) := by rw [← hV]; simp [putTwins, go_sem, o33W]
    have o34 : V.cell? ⟨w.heap.size + 1 + 1 + 1, 4, none⟩ = some (.int .i64 n.hard.lo) := by rw [← hV]; simp [putTwins, go_sem, o34W]
    have o35 : V.cell? ⟨w.heap.size + 1 + 1 + 1, 5, none⟩ = some (.int .i64 n.hard.hi) := by rw [← hV]; simp [putTwins, go_sem, o35W]
    have o36 : V.cell? ⟨w.heap.size + 1 + 1 + 1, 6, none⟩ = some (.bool n.stamp) := by rw [← hV]; simp [putTwins, go_sem, o36W]
    have m0 := Lays.of_cell o00
    have m1 := Lays.of_cell o10
    have m2 := Lays.of_cell o20
    have m3 := Lays.of_cell o30
    have m4 := Lays.of_cell r4
    have m5 := Lays.of_cell r50
    rw [hV] at hbA2 hgA2 hEV hpA2
    have HBA := Lib.hid hbA2
    clear hbA2
    have HGB := Lib.hid hgA2
    clear hgA2
    have HPA := Lib.hid hpA2
    clear hpA2
    have HTS := Lib.hid hts
    clear hts
    have HNE := Lib.hid hne
    clear hne
    clear hbA hbT hbS hgA hpA hT1 hT2 hT3 hT4 hfr5 hp4 hp5 hΦ
    go_wp2_with fail
    change Calls Tryz.prog 9 _ (putTwins W p4 p5 g (.slice qb ts'.length cb) (.slice ql g.loads.length cl) (.slice qr g.runners.length cr) (.slice qs g.strokes.length cs)) _
    rw [hV]
    clear c4 c50 c51 c52 c53 c54 c55 c56 c57 hf50 hf51 hf52 hf53 hf54 hf55 hf56 hf57 hfr4 hl4 hl5 hV hwW3 hE hb4 hb5 o00W o10W o11W o12W o13W o14W o15W o16W o17W o20W o21W o22W o23W o24W o25W o26W o27W o30W o31W o32W o33W o34W o35W o36W
    clear W
    go_wp2_with (first
      | (go_at_call 9; refine (scale_Judge_any ts' _ g _ _ _ n _ (HBA.out.mono (by repeat' (first | with_reducible exact World.Exts.refl _ | with_reducible refine World.Exts.alloc ?_ _ | with_reducible refine World.Exts.drew ?_ | with_reducible refine World.Exts.drewN ?_ _ | with_reducible refine World.Exts.ext ?_ _ | with_reducible refine World.Exts.setCell ?_ ?_ _ | (simp; done) | exact World.size_ext_le _ _ | (simp; omega)))) (HGB.out.mono (by repeat' (first | with_reducible exact World.Exts.refl _ | with_reducible refine World.Exts.alloc ?_ _ | with_reducible refine World.Exts.drew ?_ | with_reducible refine World.Exts.drewN ?_ _ | with_reducible refine World.Exts.ext ?_ _ | with_reducible refine World.Exts.setCell ?_ ?_ _ | (simp; done) | exact World.size_ext_le _ _ | (simp; omega)))) (HCD.out.mono (by repeat' (first | exact hEV | with_reducible exact World.Exts.refl _ | with_reducible refine World.Exts.alloc ?_ _ | with_reducible refine World.Exts.drew ?_ | with_reducible refine World.Exts.drewN ?_ _ | with_reducible refine World.Exts.ext ?_ _ | with_reducible refine World.Exts.setCell ?_ ?_ _ | (simp; done) | exact World.size_ext_le _ _ | (simp; omega))))).mono ?_; rw [HTS.out]; rintro e w' ⟨va, rfl, hva, X4, rfl⟩; obtain ⟨qa, ca, rfl⟩ := hva.len; have HVA := Lib.hid hva; clear hva)
      | (go_at_call 10; refine (r04_Judge_any ts _ g _ _ _ n _ (HB.out.mono (by repeat' (first | exact hEV | with_reducible exact World.Exts.refl _ | with_reducible refine World.Exts.alloc ?_ _ | with_reducible refine World.Exts.drew ?_ | with_reducible refine World.Exts.drewN ?_ _ | with_reducible refine World.Exts.ext ?_ _ | with_reducible refine World.Exts.setCell ?_ ?_ _ | (simp; done) | exact World.size_ext_le _ _ | (simp; omega)))) (HGA.out.mono (by repeat' (first | exact hEV | with_reducible exact World.Exts.refl _ | with_reducible refine World.Exts.alloc ?_ _ | with_reducible refine World.Exts.drew ?_ | with_reducible refine World.Exts.drewN ?_ _ | with_reducible refine World.Exts.ext ?_ _ | with_reducible refine World.Exts.setCell ?_ ?_ _ | (simp; done) | exact World.size_ext_le _ _ | (simp; omega))))).mono ?_; rintro e w' ⟨vc, rfl, hvc, X5, rfl⟩; obtain ⟨qc, cc, rfl⟩ := hvc.len; have HVC := Lib.hid hvc; clear hvc)
      | (go_at_call 11; refine (scale_Again_any ts' _ g _ _ _ g2 _ _ _ n _ (HBA.out.mono (by repeat' (first | with_reducible exact World.Exts.refl _ | with_reducible refine World.Exts.alloc ?_ _ | with_reducible refine World.Exts.drew ?_ | with_reducible refine World.Exts.drewN ?_ _ | with_reducible refine World.Exts.ext ?_ _ | with_reducible refine World.Exts.setCell ?_ ?_ _ | (simp; done) | exact World.size_ext_le _ _ | (simp; omega)))) (HGB.out.mono (by repeat' (first | with_reducible exact World.Exts.refl _ | with_reducible refine World.Exts.alloc ?_ _ | with_reducible refine World.Exts.drew ?_ | with_reducible refine World.Exts.drewN ?_ _ | with_reducible refine World.Exts.ext ?_ _ | with_reducible refine World.Exts.setCell ?_ ?_ _ | (simp; done) | exact World.size_ext_le _ _ | (simp; omega)))) (HGA2.out.mono (by repeat' (first | exact hEV | with_reducible exact World.Exts.refl _ | with_reducible refine World.Exts.alloc ?_ _ | with_reducible refine World.Exts.drew ?_ | with_reducible refine World.Exts.drewN ?_ _ | with_reducible refine World.Exts.ext ?_ _ | with_reducible refine World.Exts.setCell ?_ ?_ _ | (simp; done) | exact World.size_ext_le _ _ | (simp; omega))))).mono ?_; rw [HTS.out]; rintro e w' ⟨rfl, X6, rfl⟩)
      | (go_at_call 12; refine (r04_Again_any ts _ g _ _ _ g2 _ _ _ n _ (HB.out.mono (by repeat' (first | exact hEV | with_reducible exact World.Exts.refl _ | with_reducible refine World.Exts.alloc ?_ _ | with_reducible refine World.Exts.drew ?_ | with_reducible refine World.Exts.drewN ?_ _ | with_reducible refine World.Exts.ext ?_ _ | with_reducible refine World.Exts.setCell ?_ ?_ _ | (simp; done) | exact World.size_ext_le _ _ | (simp; omega)))) (HGA.out.mono (by repeat' (first | exact hEV | with_reducible exact World.Exts.refl _ | with_reducible refine World.Exts.alloc ?_ _ | with_reducible refine World.Exts.drew ?_ | with_reducible refine World.Exts.drewN ?_ _ | with_reducible refine World.Exts.ext ?_ _ | with_reducible refine World.Exts.setCell ?_ ?_ _ | (simp; done) | exact World.size_ext_le _ _ | (simp; omega)))) (HGA2.out.mono (by repeat' (first | exact hEV | with_reducible exact World.Exts.refl _ | with_reducible refine World.Exts.alloc ?_ _ | with_reducible refine World.Exts.drew ?_ | with_reducible refine World.Exts.drewN ?_ _ | with_reducible refine World.Exts.ext ?_ _ | with_reducible refine World.Exts.setCell ?_ ?_ _ | (simp; done) | exact World.size_ext_le _ _ | (simp; omega))))).mono ?_; rintro e w' ⟨rfl, X7, rfl⟩)
      | (go_at_call 13; refine (scale_Ballast_any ts' _ g _ _ _ n pieces _ _ (HBA.out.mono (by repeat' (first | with_reducible exact World.Exts.refl _ | with_reducible refine World.Exts.alloc ?_ _ | with_reducible refine World.Exts.drew ?_ | with_reducible refine World.Exts.drewN ?_ _ | with_reducible refine World.Exts.ext ?_ _ | with_reducible refine World.Exts.setCell ?_ ?_ _ | (simp; done) | exact World.size_ext_le _ _ | (simp; omega)))) (HGB.out.mono (by repeat' (first | with_reducible exact World.Exts.refl _ | with_reducible refine World.Exts.alloc ?_ _ | with_reducible refine World.Exts.drew ?_ | with_reducible refine World.Exts.drewN ?_ _ | with_reducible refine World.Exts.ext ?_ _ | with_reducible refine World.Exts.setCell ?_ ?_ _ | (simp; done) | exact World.size_ext_le _ _ | (simp; omega)))) (HPA.out.mono (by repeat' (first | with_reducible exact World.Exts.refl _ | with_reducible refine World.Exts.alloc ?_ _ | with_reducible refine World.Exts.drew ?_ | with_reducible refine World.Exts.drewN ?_ _ | with_reducible refine World.Exts.ext ?_ _ | with_reducible refine World.Exts.setCell ?_ ?_ _ | (simp; done) | exact World.size_ext_le _ _ | (simp; omega))))).mono ?_; rw [HTS.out]; rintro e w' ⟨vl, rfl, hvl, X8, rfl⟩; obtain ⟨qll, cll, rfl⟩ := hvl.len; have HVL := Lib.hid hvl; clear hvl)
      | (go_at_call 14; refine (r04_Ballast_any ts _ g _ _ _ n pieces _ _ (HB.out.mono (by repeat' (first | exact hEV | with_reducible exact World.Exts.refl _ | with_reducible refine World.Exts.alloc ?_ _ | with_reducible refine World.Exts.drew ?_ | with_reducible refine World.Exts.drewN ?_ _ | with_reducible refine World.Exts.ext ?_ _ | with_reducible refine World.Exts.setCell ?_ ?_ _ | (simp; done) | exact World.size_ext_le _ _ | (simp; omega)))) (HGA.out.mono (by repeat' (first | exact hEV | with_reducible exact World.Exts.refl _ | with_reducible refine World.Exts.alloc ?_ _ | with_reducible refine World.Exts.drew ?_ | with_reducible refine World.Exts.drewN ?_ _ | with_reducible refine World.Exts.ext ?_ _ | with_reducible refine World.Exts.setCell ?_ ?_ _ | (simp; done) | exact World.size_ext_le _ _ | (simp; omega)))) (HP.out.mono (by repeat' (first | exact hEV | with_reducible exact World.Exts.refl _ | with_reducible refine World.Exts.alloc ?_ _ | with_reducible refine World.Exts.drew ?_ | with_reducible refine World.Exts.drewN ?_ _ | with_reducible refine World.Exts.ext ?_ _ | with_reducible refine World.Exts.setCell ?_ ?_ _ | (simp; done) | exact World.size_ext_le _ _ | (simp; omega))))).mono ?_; rintro e w' ⟨vm, rfl, hvm, X9, rfl⟩; obtain ⟨qm, cm, rfl⟩ := hvm.len; have HVM := Lib.hid hvm; clear hvm)
      | (go_at_call 15; refine (r04_SameBytes_any (judgeR (ts.map Prod.fst) g n).1.1 _ _ _ (HVA.out.mono (by repeat' (first | with_reducible exact World.Exts.refl _ | with_reducible refine World.Exts.alloc ?_ _ | with_reducible refine World.Exts.drew ?_ | with_reducible refine World.Exts.drewN ?_ _ | with_reducible refine World.Exts.ext ?_ _ | with_reducible refine World.Exts.setCell ?_ ?_ _ | (simp; done) | exact World.size_ext_le _ _ | (simp; omega)))) (HVC.out.mono (by repeat' (first | with_reducible exact World.Exts.refl _ | with_reducible refine World.Exts.alloc ?_ _ | with_reducible refine World.Exts.drew ?_ | with_reducible refine World.Exts.drewN ?_ _ | with_reducible refine World.Exts.ext ?_ _ | with_reducible refine World.Exts.setCell ?_ ?_ _ | (simp; done) | exact World.size_ext_le _ _ | (simp; omega))))).mono ?_; rintro e w' ⟨rfl, X10, rfl⟩)
      | (go_at_call 16; ((with_reducible refine (r04_SameInts_any ((ballastR (ts.map Prod.fst) g n pieces).1.map fun x : Nat => (x : Int)) _ _ _ ?ha ?hb).mono ?_); (case ha => exact row_of_nat (HVL.out.mono (by repeat' (first | with_reducible exact World.Exts.refl _ | with_reducible refine World.Exts.alloc ?_ _ | with_reducible refine World.Exts.drew ?_ | with_reducible refine World.Exts.drewN ?_ _ | with_reducible refine World.Exts.ext ?_ _ | with_reducible refine World.Exts.setCell ?_ ?_ _ | (simp; done) | exact World.size_ext_le _ _ | (simp; omega))))); (case hb => exact row_of_nat (HVM.out.mono (by repeat' (first | with_reducible exact World.Exts.refl _ | with_reducible refine World.Exts.alloc ?_ _ | with_reducible refine World.Exts.drew ?_ | with_reducible refine World.Exts.drewN ?_ _ | with_reducible refine World.Exts.ext ?_ _ | with_reducible refine World.Exts.setCell ?_ ?_ _ | (simp; done) | exact World.size_ext_le _ _ | (simp; omega))))); rintro e w' ⟨rfl, X11, rfl⟩))
      | (go_at_call 16; ((with_reducible refine (r04_SameInts_any pieces _ _ _ ?ha ?hb).mono ?_); (case ha => exact HPA.out.mono (by repeat' (first | with_reducible exact World.Exts.refl _ | with_reducible refine World.Exts.alloc ?_ _ | with_reducible refine World.Exts.drew ?_ | with_reducible refine World.Exts.drewN ?_ _ | with_reducible refine World.Exts.ext ?_ _ | with_reducible refine World.Exts.setCell ?_ ?_ _ | (simp; done) | exact World.size_ext_le _ _ | (simp; omega)))); (case hb => exact HP.out.mono (by repeat' (first | exact hEV | with_reducible exact World.Exts.refl _ | with_reducible refine World.Exts.alloc ?_ _ | with_reducible refine World.Exts.drew ?_ | with_reducible refine World.Exts.drewN ?_ _ | with_reducible refine World.Exts.ext ?_ _ | with_reducible refine World.Exts.setCell ?_ ?_ _ | (simp; done) | exact World.size_ext_le _ _ | (simp; omega)))); rintro e w' ⟨rfl, X12, rfl⟩))
      | (go_at_call 17; refine (r04_SameBay_any ts' ts _ _ _ (HBA.out.mono (by repeat' (first | with_reducible exact World.Exts.refl _ | with_reducible refine World.Exts.alloc ?_ _ | with_reducible refine World.Exts.drew ?_ | with_reducible refine World.Exts.drewN ?_ _ | with_reducible refine World.Exts.ext ?_ _ | with_reducible refine World.Exts.setCell ?_ ?_ _ | (simp; done) | exact World.size_ext_le _ _ | (simp; omega)))) (HB.out.mono (by repeat' (first | exact hEV | with_reducible exact World.Exts.refl _ | with_reducible refine World.Exts.alloc ?_ _ | with_reducible refine World.Exts.drew ?_ | with_reducible refine World.Exts.drewN ?_ _ | with_reducible refine World.Exts.ext ?_ _ | with_reducible refine World.Exts.setCell ?_ ?_ _ | (simp; done) | exact World.size_ext_le _ _ | (simp; omega)))) HTS.out).mono ?_; rintro e w' ⟨rfl, X14, rfl⟩)
      | (go_at_call 18; refine (r04_SameGear_any g _ _ _ _ _ _ _ (HGB.out.mono (by repeat' (first | with_reducible exact World.Exts.refl _ | with_reducible refine World.Exts.alloc ?_ _ | with_reducible refine World.Exts.drew ?_ | with_reducible refine World.Exts.drewN ?_ _ | with_reducible refine World.Exts.ext ?_ _ | with_reducible refine World.Exts.setCell ?_ ?_ _ | (simp; done) | exact World.size_ext_le _ _ | (simp; omega)))) (HGA.out.mono (by repeat' (first | exact hEV | with_reducible exact World.Exts.refl _ | with_reducible refine World.Exts.alloc ?_ _ | with_reducible refine World.Exts.drew ?_ | with_reducible refine World.Exts.drewN ?_ _ | with_reducible refine World.Exts.ext ?_ _ | with_reducible refine World.Exts.setCell ?_ ?_ _ | (simp; done) | exact World.size_ext_le _ _ | (simp; omega))))).mono ?_; rintro e w' ⟨rfl, X15, rfl⟩))
    go_ret
    exact ⟨rfl, (by repeat' (first | exact hEV | with_reducible exact World.Exts.refl _ | with_reducible refine World.Exts.alloc ?_ _ | with_reducible refine World.Exts.drew ?_ | with_reducible refine World.Exts.drewN ?_ _ | with_reducible refine World.Exts.ext ?_ _ | with_reducible refine World.Exts.setCell ?_ ?_ _ | (simp; done) | exact World.size_ext_le _ _ | (simp; omega)))⟩
  case mono => exact fun c v W W' h hE => h.mono hE
end Go.Proofs.YtomcenfikdmmkaaGreatDoor
