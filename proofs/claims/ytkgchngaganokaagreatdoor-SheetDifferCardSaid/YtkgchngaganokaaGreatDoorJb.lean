/-
  Several texts in one: see the heads of its parts.
-/
import Derived.Test.YtkgchngaganokaaGreatDoorGiK
import Derived.Test.YtkgchngaganokaaGreatDoorTq
import Derived.Test.YtkgchngaganokaaGreatDoorTk
import Derived.Test.YtkgchngaganokaaGreatDoorScDT

/-
  Walks of package scale and of its reference: the conditions, and what is judged.
-/
namespace Go.Proofs.YtkgchngaganokaaGreatDoor
open Go.RowKit Kr
set_option linter.unusedSimpArgs false

theorem minOf_eq {l : List Int} (h0 : 0 < l.length) (h : ∀ x ∈ l, x ≤ 2) : minL l = minOf l := by
  cases l with
  | nil => simp at h0
  | cons x l =>
    have := h x (List.mem_cons_self ..)
    unfold minOf
    rw [List.foldl_cons, Int.min_eq_right this]
    rfl
end Go.Proofs.YtkgchngaganokaaGreatDoor

/-
  Walks of package scale: what is judged.
-/
namespace Go
/-- A call of a function that an operand holds. -/
theorem gives_val {P : Program} {o : Oper} {c : Call} {f : FuncId} {x : Operand} {ρ : Operand → Value} {w : World} {R : Value → World → Prop} {xs : List Operand} (ho : o.op = .call c) (hc : c.callee = .value x) (hx : c.args = xs.toArray) (ef : ∀ args w, (callFunc f args).run P w = .ok (.enter f args) w)
    (h : Calls P f (xs.map ρ).toArray w fun e w' => ∃ v, e = .returned v ∧ R v w') (hρ : ρ x = .func (.func f) #[] #[]) : o.gives P ρ w R := by
  refine .inl ⟨f, (xs.map ρ).toArray, ?_, h⟩
  unfold execOp
  simp [ho, resolve, hc, hρ, Deferred.ofValue, invoke, ef, hx]
end Go
namespace Go.Proofs.YtkgchngaganokaaGreatDoor
open Go.RowKit Kr
set_option linter.unusedSimpArgs false

def u8Cs (l : List Int) : List Value := l.flatMap fun x => [.int .u8 x]
theorem u8Cs_snoc (l : List Int) (x : Int) : u8Cs (l ++ [x]) = u8Cs l ++ [.int .u8 x] := by simp [u8Cs]
theorem elem_u8 : ElemOf Tryz.prog 33 5 (.int .u8 0) 1 1 := ⟨Tryz.underlying33, by kernel_rfl, rfl, by decide, by decide⟩
theorem row_u8 {w : World} {base : Nat} {e : TypeId} {v : Value} {l : List Int} (h : w.ownsRow base e 1 v l.length (u8Cs l)) : IsRow (fun x : Int => [.int .u8 x]) 1 w v l := IsRow.of_owns h (fun _ _ => rfl)
/-- What the region of one condition leaves. -/
def CondOne (a : Int) (c : Nat) (W : World) (v : Value) : Prop := (c = 7 → v = .int .u8 a) ∧ (c = 8 → ∃ nb, v = .slice (some ⟨nb, 0, none⟩) 1 1 ∧ W.cell? ⟨nb, 0, none⟩ = some (.int .u8 a))
theorem CondOne.mono {a : Int} {c : Nat} {W W' : World} {v : Value} (h : CondOne a c W v) (hE : W.Exts W') : CondOne a c W' v := ⟨h.1, fun e => by obtain ⟨nb, h1, h2⟩ := h.2 e; exact ⟨nb, h1, hE.cell h2⟩⟩
/-- Eleven stores into a box. -/
def putMeas (W : World) (pp : Nat) (g : Gear) (l r s vt : Value) : World :=
  (((((((((((W.setCell ⟨pp, 0, none⟩ l).setCell ⟨pp, 1, none⟩ (.int .i64 g.added)).setCell ⟨pp, 2, none⟩ (.int .i64 g.base)).setCell ⟨pp, 3, none⟩ (.int .i64 g.jitter)).setCell ⟨pp, 4, none⟩ r).setCell ⟨pp, 5, none⟩ s).setCell ⟨pp, 6, none⟩ (.int .i64 g.spread)).setCell ⟨pp, 7, none⟩ (.bool g.stamp)).setCell ⟨pp, 8, none⟩ vt).setCell ⟨pp, 9, none⟩ (.int .i64 0)).setCell ⟨pp, 10, none⟩ (.int .i64 0))
theorem laysAs_frozen {W : World} {b i : Nat} {cs : Array Value} {t : TypeId} (h : LaysAs W b (.cells cs t (0, 0))) : W.frozen? ⟨b, i, none⟩ = false := by
  unfold LaysAs at h; simp [World.frozen?, h]
theorem RowT.off1 {α : Type} {enc : α → List Value} {k : Nat} {t t4 : TypeId} {W : World} {v : Value} {xs : List α} {p4 : Nat} {c4 : Array Value} {f4 : Nat × Nat} (hr : IsRow enc k W v xs) (h : RowT t W v)
    (h4 : LaysAs W p4 (.cells c4 t4 f4)) (n4 : t ≠ t4) : RowOff enc k W [p4] v xs :=
  ⟨hr, .inr fun g hg => by simp at hg; subst hg; exact h.off h4 n4⟩
theorem rowOff_putMeas {α : Type} {enc : α → List Value} {k : Nat} {W : World} {v : Value} {xs : List α} {pp : Nat} (h : RowOff enc k W [pp] v xs) (g : Gear) (l r s vt : Value) : RowOff enc k (putMeas W pp g l r s vt) [pp] v xs := by
  unfold putMeas
  iterate 11 refine RowOff.set ?_ (by simp) _
  exact h
theorem judge_err {b : List Scale} {g : Gear} {n : Norm} (h : check b g ≠ 0) : judgeR b g n = (([], 0), check b g) := by unfold judgeR; rw [if_pos h]
theorem judge_norm {b : List Scale} {g : Gear} {n : Norm} (h : check b g = 0) (h2 : normB n = false) : judgeR b g n = (([], 0), 42) := by unfold judgeR; rw [if_neg (by simp [h]), if_pos h2]
theorem judge_none {b : List Scale} {g : Gear} {n : Norm} (h : check b g = 0) (h2 : normB n = true) (h3 : totals b g = []) : judgeR b g n = (([], 0), 6) := by unfold judgeR; rw [if_neg (by simp [h]), if_neg (by simp [h2]), if_pos h3]
theorem judge_bad {b : List Scale} {g : Gear} {n : Norm} (h : check b g = 0) (h2 : normB n = true) (h3 : totals b g ≠ []) (h4 : (hard g).2 ≠ 0) : judgeR b g n = (([], 0), (hard g).2) := by unfold judgeR; rw [if_neg (by simp [h]), if_neg (by simp [h2]), if_neg h3, if_pos h4]
theorem judge_all {b : List Scale} {g : Gear} {n : Norm} (h : check b g = 0) (h2 : normB n = true) (h3 : totals b g ≠ []) (h4 : (hard g).2 = 0) : judgeR b g n = ((partsJ b g n, minOf (partsJ b g n)), 0) := by unfold judgeR; rw [if_neg (by simp [h]), if_neg (by simp [h2]), if_neg h3, if_neg (by simp [h4])]
theorem hard_bare {g : Gear} (h : bare g = true) : ((hard g).2 = 0 ∧ (hard g).1.lo ≤ (hard g).1.hi) ∨ hard g = (⟨0, 0⟩, 8) := by
  unfold hard
  rw [if_pos h]
  split
  · exact .inr rfl
  · exact .inl ⟨rfl, by dsimp only; omega⟩

end Go.Proofs.YtkgchngaganokaaGreatDoor
