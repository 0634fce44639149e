/-
  Several texts in one: see the heads of its parts.
-/

import Derived.Test.YtcickafaomfbmaaGreatDoorZSJesGiK
import Derived.Test.YtcickafaomfbmaaGreatDoorZSJesTq
import Derived.Test.YtcickafaomfbmaaGreatDoorZSJesTk
import Derived.Test.YtcickafaomfbmaaGreatDoorZSJesScDT
/-
  Walks of package scale and of its reference: the conditions, and what is judged.
-/
namespace Go.Proofs.YtcickafaomfbmaaGreatDoor
open Go.RowKit Kr
set_option linter.unusedSimpArgs false

set_option maxHeartbeats 1000000 in
theorem Min_uint8_any (l : List Int) (v : Value) (w : World) (hrow : IsRow (fun x : Int => [.int .u8 x]) 1 w v l) (h0 : 0 < l.length) : Calls Tryz.prog 44 #[v] w fun e w' => e = .returned (.int .u8 (minL l)) ∧ w.Exts w' := by
  obtain ⟨p, b, o, cap, rfl, hm, hp, hc⟩ := hrow.ex
  obtain ⟨rfl, hlay⟩ := hp h0
  obtain ⟨x, hx⟩ := some_of_lt h0
  have c00 := hc 0 x hx 0 _ rfl
  simp only [Nat.zero_mul, Nat.add_zero] at c00
  have ht1 : minL (l.take 1) = x := by rw [take_snoc hx]; rfl
  have HT1 := Lib.hid ht1
  clear ht1
  have HC := Lib.hid hc
  clear hc
  clear hrow hp hx
  go_enter Tryz.func44, Tryz.ntmps44
  go_wp2_with fail
  go_loopw [3, 4] (fun m i wr => ∃ k : Nat, 1 ≤ k ∧ k ≤ l.length ∧ i = .int .i64 k ∧ m = .int .u8 (minL (l.take k)) ∧ w.Exts wr) (fun _ i _ => l.length - (intOf i).toNat)
  case atStart => exact ⟨1, by omega, by omega, rfl, by rw [HT1.out], exq⟩
  case round =>
    obtain ⟨k, hk1, hk, rfl, rfl, hE⟩ := hrel
    obtain ⟨X, rfl⟩ := hE
    by_cases hlt : k < l.length
    · obtain ⟨y, hy⟩ := some_of_lt hlt
      have hcs := HC.out k y hy
      have c0 := hcs 0 _ rfl
      simp only [Nat.mul_one, Nat.add_zero] at c0
      have hnx := minL_snoc (l := l.take k) (by rw [List.length_take]; omega) y
      rw [← take_snoc hy] at hnx
      generalize minL (l.take k) = m at hnx
      have HNX := Lib.hid hnx
      clear hnx
      clear hy hcs
      rcases Int.lt_trichotomy m y with hc1 | hc1 | hc1
      all_goals
        go_wp2_with fail
        go_roundw
        case rel => exact ⟨k + 1, by omega, by omega, by go_num, by rw [HNX.out]; try exact congrArg (Value.int .u8) (by omega), exq⟩
        case measure => (simp [intOf]; try omega)
    · have hkn : k = l.length := by omega
      have hfin : minL (l.take k) = minL l := by rw [hkn, List.take_length]
      rw [hfin]
      clear hkn hfin
      go_wp2_with fail
      go_ret
      exact ⟨rfl, exq⟩
theorem minOf_eq {l : List Int} (h0 : 0 < l.length) (h : ∀ x ∈ l, x ≤ 2) : minL l = minOf l := by
  cases l with
  | nil => simp at h0
  | cons x l =>
    have := h x (List.mem_cons_self ..)
    unfold minOf
    rw [List.foldl_cons, Int.min_eq_right this]
    rfl
theorem row_span1 (w : World) (s : Span) (n : Nat) (hn : n = w.heap.size) : IsRow (fun t : Kr.Span => [.int .i64 t.lo, .int .i64 t.hi]) 2 (w.alloc (.cells #[.int .i64 s.lo, .int .i64 s.hi] 28)) (.slice (some ⟨n, 0, none⟩) 1 1) [s] := by
  have h : BlkAt (w.alloc (.cells ([.int .i64 s.lo, .int .i64 s.hi] : List Value).toArray 28)) n (([s] : List Span).flatMap fun t => [.int .i64 t.lo, .int .i64 t.hi]) := BlkAt.new w _ _ hn
  exact IsRow.of_blk (enc := fun t : Kr.Span => [.int .i64 t.lo, .int .i64 t.hi]) (k := 2) (xs := [s]) (fun _ => rfl) h ⟨by subst hn; simp⟩ (by simp)

set_option maxHeartbeats 400000 in
theorem scale_conditions_1_any (g : Gear) (lv rv sv vt : Value) (l : List Span) (h : Span) (n : Norm) (w : World) (hrow : IsRow (fun t : Kr.Span => [.int .i64 t.lo, .int .i64 t.hi]) 2 w vt l) (hf : Full l) :
    Calls Tryz.prog 247 #[.agg #[lv, .int .i64 g.added, .int .i64 g.base, .int .i64 g.jitter, rv, sv, .int .i64 g.spread, .bool g.stamp, vt, .int .i64 h.lo, .int .i64 h.hi], .agg #[.int .i64 n.total.lo, .int .i64 n.total.hi, .int .i64 n.added, .int .i64 n.warm, .int .i64 n.hard.lo, .int .i64 n.hard.hi, .bool n.stamp]] w fun e w' => e = .returned (.int .u8 (knownR l n.total)) ∧ w.Exts w' := by
  obtain ⟨q, c, rfl⟩ := hrow.len
  have HR := Lib.hid hrow
  clear hrow
  go_enter Tryz.func247, Tryz.ntmps247
  go_wp2_with (go_at_call 248; refine (scale_known_any l n.total _ _ (HR.out.mono exq) hf).mono ?_; rintro e w' ⟨rfl, X2, rfl⟩)
  go_ret
  exact ⟨rfl, exq⟩
set_option maxHeartbeats 400000 in
theorem scale_conditions_2_any (g : Gear) (lv rv sv vt : Value) (h : Span) (n : Norm) (w : World) :
    Calls Tryz.prog 249 #[.agg #[lv, .int .i64 g.added, .int .i64 g.base, .int .i64 g.jitter, rv, sv, .int .i64 g.spread, .bool g.stamp, vt, .int .i64 h.lo, .int .i64 h.hi], .agg #[.int .i64 n.total.lo, .int .i64 n.total.hi, .int .i64 n.added, .int .i64 n.warm, .int .i64 n.hard.lo, .int .i64 n.hard.hi, .bool n.stamp]] w fun e w' => e = .returned (.int .u8 (sureR (decide (g.added ≤ n.added)))) ∧ w.Exts w' := by
  go_enter Tryz.func249, Tryz.ntmps249
  go_wp2_with (go_at_call 250; refine (scale_sure_any _ _).mono ?_; rintro e w' ⟨rfl, X2, rfl⟩)
  go_ret
  exact ⟨rfl, exq⟩
set_option maxHeartbeats 400000 in
theorem scale_conditions_4_any (g : Gear) (lv rv sv vt : Value) (h : Span) (n : Norm) (w : World) (hh : h.lo ≤ h.hi) :
    Calls Tryz.prog 253 #[.agg #[lv, .int .i64 g.added, .int .i64 g.base, .int .i64 g.jitter, rv, sv, .int .i64 g.spread, .bool g.stamp, vt, .int .i64 h.lo, .int .i64 h.hi], .agg #[.int .i64 n.total.lo, .int .i64 n.total.hi, .int .i64 n.added, .int .i64 n.warm, .int .i64 n.hard.lo, .int .i64 n.hard.hi, .bool n.stamp]] w fun e w' => e = .returned (.int .u8 (knownR [h] n.hard)) ∧ w.Exts w' := by
  have hf : Full [h] := fun s hs => by rw [List.mem_singleton.1 hs]; exact hh
  go_enter Tryz.func253, Tryz.ntmps253
  go_wp2_with (go_at_call 248; refine (scale_known_any [h] n.hard _ _ (row_span1 _ h _ (by simp)) hf).mono ?_; rintro e w' ⟨rfl, X2, rfl⟩)
  go_ret
  exact ⟨rfl, exq⟩
set_option maxHeartbeats 400000 in
theorem scale_conditions_5_any (g : Gear) (lv rv sv vt : Value) (h : Span) (n : Norm) (w : World) :
    Calls Tryz.prog 254 #[.agg #[lv, .int .i64 g.added, .int .i64 g.base, .int .i64 g.jitter, rv, sv, .int .i64 g.spread, .bool g.stamp, vt, .int .i64 h.lo, .int .i64 h.hi], .agg #[.int .i64 n.total.lo, .int .i64 n.total.hi, .int .i64 n.added, .int .i64 n.warm, .int .i64 n.hard.lo, .int .i64 n.hard.hi, .bool n.stamp]] w fun e w' => e = .returned (.int .u8 (sureR (g.stamp || !n.stamp))) ∧ w.Exts w' := by
  cases hs : g.stamp
  all_goals
    go_enter Tryz.func254, Tryz.ntmps254
    go_wp2_with (go_at_call 250; refine (scale_sure_any _ _).mono ?_; rintro e w' ⟨rfl, X2, rfl⟩)
    go_ret
    exact ⟨rfl, exq⟩

set_option maxRecDepth 4000 in
set_option maxHeartbeats 1000000 in
theorem scale_conditions_3_any (g : Gear) (lv rv sv vt : Value) (h : Span) (n : Norm) (w : World) (hg : GearAt w (g, lv, rv, sv)) (hvt : ∃ q k c, vt = .slice q k c) (hb : bare g = true) :
    Calls Tryz.prog 251 #[.agg #[lv, .int .i64 g.added, .int .i64 g.base, .int .i64 g.jitter, rv, sv, .int .i64 g.spread, .bool g.stamp, vt, .int .i64 h.lo, .int .i64 h.hi], .agg #[.int .i64 n.total.lo, .int .i64 n.total.hi, .int .i64 n.added, .int .i64 n.warm, .int .i64 n.hard.lo, .int .i64 n.hard.hi, .bool n.stamp]] w fun e w' => e = .returned (.int .u8 (warmOf g n.warm)) ∧ w.Exts w' := by
  obtain ⟨qt, kt, ct, rfl⟩ := hvt
  have hl1 := hg.l
  have hl2 := hg.r
  have hl3 := hg.s
  dsimp only at hl1 hl2 hl3
  obtain ⟨p1, cap1, rfl⟩ := hl1.len
  obtain ⟨p2, cap2, rfl⟩ := hl2.len
  obtain ⟨p3, cap3, rfl⟩ := hl3.len
  have HG := Lib.hid hg
  clear hg
  have hwm : warm g = (g.runners.map (warmAt g), 0) := by unfold warm; rw [hb]; rfl
  have hbb : ∀ s ∈ g.runners.map (warmAt g), s.lo ≤ s.hi ∧ -9000 ≤ s.lo := fun s hs => by
    obtain ⟨r, hr, rfl⟩ := List.mem_map.1 hs
    obtain ⟨_, hb2, hb3, hb4, _, _, _, _⟩ := bare_bounds hb
    have := hb4 r hr
    unfold warmAt
    dsimp only
    omega
  have hfin : warmOf g n.warm = (g.runners.map (warmAt g)).foldl (warmStep n.warm) 2 := rfl
  rw [hfin]
  clear hl1 hl2 hl3 hfin hb
  generalize g.runners.map (warmAt g) = L at hwm hbb ⊢
  have HWM := Lib.hid hwm
  clear hwm
  go_enter Tryz.func251, Tryz.ntmps251
  go_wp2_with (go_at_call 252; refine (scale_Warm_any g _ _ _ _ (HG.out.mono exq)).mono ?_; rw [HWM.out]; rintro e w' ⟨v2, rfl, hv2, X2, rfl⟩; obtain ⟨qw, cw, rfl⟩ := hv2.len; have HV2 := Lib.hid hv2; clear hv2)
  obtain ⟨p, b, oo, cap, e, hm, hp, hc⟩ := HV2.out.ex
  cases e
  have HP := Lib.hid hp
  clear hp
  have HC := Lib.hid hc
  clear hc
  have HBB := Lib.hid hbb
  clear hbb
  clear HV2
  go_loopw [7, 18] (fun le i wr => ∃ j : Nat, j ≤ L.length ∧ i = .int .i64 j ∧ le = .int .u8 ((L.take j).foldl (warmStep n.warm) 2) ∧ (World.ext _ X2).Exts wr) (fun _ i _ => L.length - (intOf i).toNat)
  case atStart => exact ⟨0, Nat.zero_le _, rfl, rfl, exq⟩
  case round =>
    obtain ⟨j, hj, rfl, rfl, hE⟩ := hrel
    obtain ⟨X, rfl⟩ := hE
    by_cases hlt : j < L.length
    · obtain ⟨rfl, hl⟩ := HP.out (by omega)
      obtain ⟨x, hx⟩ := some_of_lt hlt
      have hcs := HC.out j x hx
      have c0 := hcs 0 _ rfl
      have c1 := hcs 1 _ rfl
      simp only [Nat.add_zero] at c0 c1
      obtain ⟨hx1, hx2⟩ := HBB.out x (List.mem_of_getElem? hx)
      have hnx : (L.take (j + 1)).foldl (warmStep n.warm) 2 = min ((L.take j).foldl (warmStep n.warm) 2) (knownR [x] ⟨min x.lo n.warm, n.warm⟩) := by rw [take_snoc hx, List.foldl_append, warm_known hx1 hx2]; rfl
      have hf : Full [x] := fun s hs => by rw [List.mem_singleton.1 hs]; exact hx1
      generalize (L.take j).foldl (warmStep n.warm) 2 = le at hnx ⊢
      have HNX := Lib.hid hnx
      clear hnx
      have HF := Lib.hid hf
      clear hf
      clear hx hcs
      go_wp2_with (go_at_call 248; refine (scale_known_any [x] ⟨min x.lo n.warm, n.warm⟩ _ _ (row_span1 _ x _ (by simp)) HF.out).mono ?_; rintro e w' ⟨rfl, X3, rfl⟩)
      go_roundw
      case rel => exact ⟨j + 1, by omega, by go_num, by rw [HNX.out], exq⟩
      case measure => simp [intOf]; omega
    · have hjn : j = L.length := by omega
      have hfin : L.take j = L := by rw [hjn, List.take_length]
      rw [hfin]
      clear hjn hfin
      go_wp2_with fail
      go_ret
      exact ⟨rfl, exq⟩
end Go.Proofs.YtcickafaomfbmaaGreatDoor

/-
  Walks of package scale: what is judged.
-/
namespace Go
/-- A call of a function that an operand holds. -/
theorem gives_val {P : Program} {o : Oper} {c : Call} {f : FuncId} {x : Operand} {ρ : Operand → Value} {w : World} {R : Value → World → Prop} {xs : List Operand} (ho : o.op = .call c) (hc : c.callee = .value x) (hx : c.args = xs.toArray) (ef : ∀ args w, (callFunc f args).run P w = .ok (.enter f args) w)
    (h : Calls P f (xs.map ρ).toArray w fun e w' => ∃ v, e = .returned v ∧ R v w') (hρ : ρ x = .func (.func f) #[] #[]) : o.gives P ρ w R := by
  refine .inl ⟨f, (xs.map ρ).toArray, ?_, h⟩
  unfold execOp
  simp [ho, resolve, hc, hρ, Deferred.ofValue, invoke, ef, hx]
end Go
namespace Go.Proofs.YtcickafaomfbmaaGreatDoor
open Go.RowKit Kr
set_option linter.unusedSimpArgs false

/-- The table of conditions, as it is laid. -/
structure CondsAt (w : World) : Prop where
  c0 : w.cell? ⟨0, 0, none⟩ = some (.func (.func 247) #[] #[])
  c1 : w.cell? ⟨0, 1, none⟩ = some (.func (.func 249) #[] #[])
  c2 : w.cell? ⟨0, 2, none⟩ = some (.func (.func 251) #[] #[])
  c3 : w.cell? ⟨0, 3, none⟩ = some (.func (.func 253) #[] #[])
  c4 : w.cell? ⟨0, 4, none⟩ = some (.func (.func 254) #[] #[])
theorem CondsAt.mono {w w' : World} (h : CondsAt w) (hE : w.Exts w') : CondsAt w' := ⟨hE.cell h.c0, hE.cell h.c1, hE.cell h.c2, hE.cell h.c3, hE.cell h.c4⟩
def u8Cs (l : List Int) : List Value := l.flatMap fun x => [.int .u8 x]
theorem elem_u8 : ElemOf Tryz.prog 59 5 (.int .u8 0) 1 1 := ⟨Tryz.underlying59, by kernel_rfl, rfl, by decide, by decide⟩
theorem row_u8 {w : World} {base : Nat} {e : TypeId} {v : Value} {l : List Int} (h : w.ownsRow base e 1 v l.length (u8Cs l)) : IsRow (fun x : Int => [.int .u8 x]) 1 w v l := IsRow.of_owns h (fun _ _ => rfl)
/-- What the region of what was measured leaves. -/
def MeasAt (l : List Span) (g : Gear) (lv rv sv : Value) (b c : Nat) (W : World) (v : Value) : Prop :=
  (c = 3 → IsRow (fun t : Kr.Span => [.int .i64 t.lo, .int .i64 t.hi]) 2 W v l ∧ RowT 28 W v) ∧
  (c = 4 → ∃ vt, v = .agg #[lv, .int .i64 g.added, .int .i64 g.base, .int .i64 g.jitter, rv, sv, .int .i64 g.spread, .bool g.stamp, vt, .int .i64 (⟨0, 0⟩ : Span).lo, .int .i64 (⟨0, 0⟩ : Span).hi] ∧ IsRow (fun t : Kr.Span => [.int .i64 t.lo, .int .i64 t.hi]) 2 W vt l ∧ RowT 28 W vt) ∧
  (c = 5 → ∃ pp, v = .pointer (some ⟨pp, 0, none⟩) ∧ b ≤ pp ∧ LaysAs W pp (.cells [.slice none 0 0, .int .i64 0, .int .i64 0, .int .i64 0, .slice none 0 0, .slice none 0 0, .int .i64 0, .bool false, .slice none 0 0, .int .i64 0, .int .i64 0].toArray 118 (0, 0)))
theorem MeasAt.mono {l : List Span} {g : Gear} {lv rv sv : Value} {b c : Nat} {W W' : World} {v : Value} (h : MeasAt l g lv rv sv b c W v) (hE : W.Exts W') : MeasAt l g lv rv sv b c W' v :=
  ⟨fun e => ⟨(h.1 e).1.mono hE, (h.1 e).2.exts hE⟩, fun e => by obtain ⟨vt, h1, h2, h3⟩ := h.2.1 e; exact ⟨vt, h1, h2.mono hE, h3.exts hE⟩, fun e => by obtain ⟨pp, h1, h2, h3⟩ := h.2.2 e; exact ⟨pp, h1, h2, h3.exts hE⟩⟩
/-- What the region of one condition leaves. -/
def CondOne (a : Int) (c : Nat) (W : World) (v : Value) : Prop := (c = 7 → v = .int .u8 a) ∧ (c = 8 → ∃ nb, v = .slice (some ⟨nb, 0, none⟩) 1 1 ∧ W.cell? ⟨nb, 0, none⟩ = some (.int .u8 a))
theorem CondOne.mono {a : Int} {c : Nat} {W W' : World} {v : Value} (h : CondOne a c W v) (hE : W.Exts W') : CondOne a c W' v := ⟨h.1, fun e => by obtain ⟨nb, h1, h2⟩ := h.2 e; exact ⟨nb, h1, hE.cell h2⟩⟩
/-- Eleven stores into a box. -/
def putMeas (W : World) (pp : Nat) (g : Gear) (l r s vt : Value) : World :=
  (((((((((((W.setCell ⟨pp, 0, none⟩ l).setCell ⟨pp, 1, none⟩ (.int .i64 g.added)).setCell ⟨pp, 2, none⟩ (.int .i64 g.base)).setCell ⟨pp, 3, none⟩ (.int .i64 g.jitter)).setCell ⟨pp, 4, none⟩ r).setCell ⟨pp, 5, none⟩ s).setCell ⟨pp, 6, none⟩ (.int .i64 g.spread)).setCell ⟨pp, 7, none⟩ (.bool g.stamp)).setCell ⟨pp, 8, none⟩ vt).setCell ⟨pp, 9, none⟩ (.int .i64 0)).setCell ⟨pp, 10, none⟩ (.int .i64 0))
theorem putMeas_lays {W : World} {pp : Nat} (g : Gear) (l r s vt : Value) (h : LaysAs W pp (.cells [.slice none 0 0, .int .i64 0, .int .i64 0, .int .i64 0, .slice none 0 0, .slice none 0 0, .int .i64 0, .bool false, .slice none 0 0, .int .i64 0, .int .i64 0].toArray 118 (0, 0))) :
    LaysAs (putMeas W pp g l r s vt) pp (.cells [l, .int .i64 g.added, .int .i64 g.base, .int .i64 g.jitter, r, s, .int .i64 g.spread, .bool g.stamp, vt, .int .i64 0, .int .i64 0].toArray 118 (0, 0)) := by
  have h0 := LaysAs.set (i := 0) h l
  have h1 := LaysAs.set (i := 1) h0 (.int .i64 g.added)
  have h2 := LaysAs.set (i := 2) h1 (.int .i64 g.base)
  have h3 := LaysAs.set (i := 3) h2 (.int .i64 g.jitter)
  have h4 := LaysAs.set (i := 4) h3 r
  have h5 := LaysAs.set (i := 5) h4 s
  have h6 := LaysAs.set (i := 6) h5 (.int .i64 g.spread)
  have h7 := LaysAs.set (i := 7) h6 (.bool g.stamp)
  have h8 := LaysAs.set (i := 8) h7 vt
  have h9 := LaysAs.set (i := 9) h8 (.int .i64 0)
  exact LaysAs.set (i := 10) h9 (.int .i64 0)
theorem laysAs_frozen {W : World} {b i : Nat} {cs : Array Value} {t : TypeId} (h : LaysAs W b (.cells cs t (0, 0))) : W.frozen? ⟨b, i, none⟩ = false := by
  unfold LaysAs at h; simp [World.frozen?, h]
theorem RowT.off1 {α : Type} {enc : α → List Value} {k : Nat} {t t4 : TypeId} {W : World} {v : Value} {xs : List α} {p4 : Nat} {c4 : Array Value} {f4 : Nat × Nat} (hr : IsRow enc k W v xs) (h : RowT t W v)
    (h4 : LaysAs W p4 (.cells c4 t4 f4)) (n4 : t ≠ t4) : RowOff enc k W [p4] v xs :=
  ⟨hr, .inr fun g hg => by simp at hg; subst hg; exact h.off h4 n4⟩
theorem rowOff_putMeas {α : Type} {enc : α → List Value} {k : Nat} {W : World} {v : Value} {xs : List α} {pp : Nat} (h : RowOff enc k W [pp] v xs) (g : Gear) (l r s vt : Value) : RowOff enc k (putMeas W pp g l r s vt) [pp] v xs := by
  unfold putMeas
  iterate 11 refine RowOff.set ?_ (by simp) _
  exact h
theorem judge_err {b : List Scale} {g : Gear} {n : Norm} (h : check b g ≠ 0) : judgeR b g n = (([], 0), check b g) := by unfold judgeR; rw [if_pos h]
theorem judge_norm {b : List Scale} {g : Gear} {n : Norm} (h : check b g = 0) (h2 : normB n = false) : judgeR b g n = (([], 0), 42) := by unfold judgeR; rw [if_neg (by simp [h]), if_pos h2]
theorem judge_none {b : List Scale} {g : Gear} {n : Norm} (h : check b g = 0) (h2 : normB n = true) (h3 : totals b g = []) : judgeR b g n = (([], 0), 6) := by unfold judgeR; rw [if_neg (by simp [h]), if_neg (by simp [h2]), if_pos h3]
theorem judge_bad {b : List Scale} {g : Gear} {n : Norm} (h : check b g = 0) (h2 : normB n = true) (h3 : totals b g ≠ []) (h4 : (hard g).2 ≠ 0) : judgeR b g n = (([], 0), (hard g).2) := by unfold judgeR; rw [if_neg (by simp [h]), if_neg (by simp [h2]), if_neg h3, if_pos h4]
theorem judge_all {b : List Scale} {g : Gear} {n : Norm} (h : check b g = 0) (h2 : normB n = true) (h3 : totals b g ≠ []) (h4 : (hard g).2 = 0) : judgeR b g n = ((partsJ b g n, minOf (partsJ b g n)), 0) := by unfold judgeR; rw [if_neg (by simp [h]), if_neg (by simp [h2]), if_neg h3, if_neg (by simp [h4])]
theorem hard_bare {g : Gear} (h : bare g = true) : ((hard g).2 = 0 ∧ (hard g).1.lo ≤ (hard g).1.hi) ∨ hard g = (⟨0, 0⟩, 8) := by
  unfold hard
  rw [if_pos h]
  split
  · exact .inr rfl
  · exact .inl ⟨rfl, by dsimp only; omega⟩

set_option maxRecDepth 4000 in
set_option maxHeartbeats 4000000 in
theorem scale_Judge_any (ts : List (Kr.Scale × Value)) (v : Value) (g : Gear) (lv rv sv : Value) (n : Norm) (w : World) (hb : BayAt w v ts) (hg : GearAt w (g, lv, rv, sv)) (hcd : CondsAt w) :
    Calls Tryz.prog 17 #[.agg #[v], .agg #[lv, .int .i64 g.added, .int .i64 g.base, .int .i64 g.jitter, rv, sv, .int .i64 g.spread, .bool g.stamp], .agg #[.int .i64 n.total.lo, .int .i64 n.total.hi, .int .i64 n.added, .int .i64 n.warm, .int .i64 n.hard.lo, .int .i64 n.hard.hi, .bool n.stamp]] w fun e w' => ∃ vp, e = .returned (.tuple #[vp, .int .u8 (judgeR (ts.map Prod.fst) g n).1.2, .int .i64 (judgeR (ts.map Prod.fst) g n).2]) ∧ IsRow (fun x : Int => [.int .u8 x]) 1 w' vp (judgeR (ts.map Prod.fst) g n).1.1 ∧ w.Exts w' := by
  have he : askErr ts [(g, lv, rv, sv)] = check (ts.map Prod.fst) g := by unfold askErr check; simp
  obtain ⟨p, cap, hv⟩ := hb.row.len
  subst hv
  have hl1 := hg.l
  have hl2 := hg.r
  have hl3 := hg.s
  dsimp only at hl1 hl2 hl3
  obtain ⟨p1, cap1, rfl⟩ := hl1.len
  obtain ⟨p2, cap2, rfl⟩ := hl2.len
  obtain ⟨p3, cap3, rfl⟩ := hl3.len
  have HG := Lib.hid hg
  clear hg
  have HB := Lib.hid hb
  clear hb
  have HCD := Lib.hid hcd
  clear hcd
  clear hl1 hl2 hl3
  by_cases hz : check (ts.map Prod.fst) g = 0
  · obtain ⟨hz1, hz2⟩ := check_zero hz
    have hbare := gearOk_bare hz2
    have hok := check_ok hz1 hz2
    have hrt : ∀ x ∈ ts, right x.1 = true := fun x hx => hok.rt _ (List.mem_map.2 ⟨x, hx, rfl⟩)
    have hsh : ∀ x ∈ ts, ∀ l ∈ g.loads, l.scale = x.1.id → -2000000 ≤ l.shown ∧ l.shown ≤ 2000000 := fun x hx => hok.sh _ (List.mem_map.2 ⟨x, hx, rfl⟩)
    have hn : ts.length ≤ 4 := by have := hok.few; rwa [List.length_map] at this
    have h6 := hok.l6
    have had := hok.ad
    rw [hz] at he
    have HE := Lib.hid he
    clear he
    have HRT := Lib.hid hrt
    clear hrt
    have HSH := Lib.hid hsh
    clear hsh
    clear hok hz1 hz2
    cases hnb : normB n
    · rw [judge_norm hz hnb]
      have HN := Lib.hid hnb
      clear hnb
      clear hz
      go_enter Tryz.func17, Tryz.ntmps17
      go_wp2_with (first
        | (go_at_call 40; refine (scale_asked_any ts _ [(g, _, _, _)] _ _ (HB.out.mono exq) (row_gear1 _ (g, _, _, _) _ (by simp)) (fun y hy => by rw [List.mem_singleton.1 hy]; exact HG.out.mono exq)).mono ?_; rintro e w' ⟨pp, rfl, hy, X2, rfl⟩; obtain ⟨_, bb, rfl, hh⟩ := hy HE.out; rw [HE.out]; have HH := Lib.hid hh; clear hh hy)
        | (go_at_call 41; refine (scale_normal_any n _).mono ?_; rintro e w' ⟨rfl, X3, rfl⟩; rw [HN.out]))
      refine bodyPost_ret (v := .tuple #[.slice none 0 0, .int .u8 0, .int .i64 42]) (by simp [results, Tryz.results17, go_sem]) rfl ?_
      exact ⟨_, rfl, IsRow.nil _, exq⟩
    rcases hd : totals (ts.map Prod.fst) g with _ | ⟨s0, sr⟩
    · rw [judge_none hz hnb hd]
      have HN := Lib.hid hnb
      clear hnb
      have HD := Lib.hid hd
      clear hd
      clear hz
      go_enter Tryz.func17, Tryz.ntmps17
      go_wp2_with (first
        | (go_at_call 40; refine (scale_asked_any ts _ [(g, _, _, _)] _ _ (HB.out.mono exq) (row_gear1 _ (g, _, _, _) _ (by simp)) (fun y hy => by rw [List.mem_singleton.1 hy]; exact HG.out.mono exq)).mono ?_; rintro e w' ⟨pp, rfl, hy, X2, rfl⟩; obtain ⟨_, bb, rfl, hh⟩ := hy HE.out; rw [HE.out]; have HH := Lib.hid hh; clear hh hy)
        | (go_at_call 41; refine (scale_normal_any n _).mono ?_; rintro e w' ⟨rfl, X3, rfl⟩; rw [HN.out]))
      refine wp_region_calls 6 (fun i => i == 3 || i == 4 || i == 5) (fun c v W => MeasAt (totals (ts.map Prod.fst) g) g (.slice p1 g.loads.length cap1) (.slice p2 g.runners.length cap2) (.slice p3 g.strokes.length cap3) (w.heap.size + 3) c W v) (by kernel_rfl) (fun ν => by kernel_rfl) (by kernel_rfl) (by kernel_rfl) (by kernel_rfl) (by kernel_rfl) ?mono ?_
      rotate_left 1
      apply Exists.intro
      refine ⟨fun ν L hL => ?_, fun c oc hc hU ν W hE hΦ => ?_, fun ν W hE hΦ => ?_⟩
      · simp only [modU, cOp, List.mapIdx_cons, List.mapIdx_nil, Nat.zero_add, Nat.reduceAdd, Nat.reduceBEq, Bool.or_false, Bool.false_or, Bool.or_true, Bool.true_or, Bool.or_self, Bool.false_eq_true, if_false, if_true, List.take_succ_cons, List.take_zero]
        repeat (go_big_quiet_step (fail))
        exact wpQuiet_nil hL
      · simp at hU
        have hwW : w.Exts W := World.Exts.trans exq hE
        have hsz3 : w.heap.size + 3 ≤ W.heap.size := by
          have h1 := hE.size
          have h2 := World.size_ext_le _ X2
          have h3 := World.size_ext_le _ X3
          simp at h1 h2 h3
          omega
        rcases hU with (rfl | rfl) | rfl
        · simp only [List.getElem?_cons_succ, List.getElem?_cons_zero, Option.some.injEq] at hc
          subst hc
          refine Oper.gives_fn rfl rfl rfl (enters_of Tryz.func42 (by kernel_rfl) rfl) ?_ rfl
          refine (hall_totals_own ts _ g _ _ _ _ _ (HH.out.mono (World.Exts.trans exq hE)) (HG.out.mono hwW) hn HRT.out h6 HSH.out had).mono ?_
          rintro e W' ⟨v', rfl, h1, h2, h3, _⟩
          exact ⟨v', rfl, h2, fun _ => ⟨h1, h3⟩, fun e => (by cases e), fun e => (by cases e)⟩
        · simp only [List.getElem?_cons_succ, List.getElem?_cons_zero, Option.some.injEq] at hc
          subst hc
          obtain ⟨h1, h2⟩ := (hΦ 3 rfl ⟨⟨3, .data⟩, by simp, rfl, rfl⟩).1 rfl
          obtain ⟨q3, c3, e3⟩ := h1.len
          generalize ν 3 = v3 at *
          subst e3
          exact .inr ⟨.agg #[(.slice p1 g.loads.length cap1), .int .i64 g.added, .int .i64 g.base, .int .i64 g.jitter, (.slice p2 g.runners.length cap2), (.slice p3 g.strokes.length cap3), .int .i64 g.spread, .bool g.stamp, (.slice q3 (totals (ts.map Prod.fst) g).length c3), .int .i64 (⟨0, 0⟩ : Span).lo, .int .i64 (⟨0, 0⟩ : Span).hi], W, by kernel_rfl, World.Exts.refl _, fun e => (by cases e), fun _ => ⟨_, rfl, h1, h2⟩, fun e => (by cases e)⟩
        · simp only [List.getElem?_cons_succ, List.getElem?_cons_zero, Option.some.injEq] at hc
          subst hc
          exact .inr ⟨.pointer (some ⟨W.heap.size, 0, none⟩), W.alloc (.cells #[.slice none 0 0, .int .i64 0, .int .i64 0, .int .i64 0, .slice none 0 0, .slice none 0 0, .int .i64 0, .bool false, .slice none 0 0, .int .i64 0, .int .i64 0] 118), by kernel_rfl, exq, fun e => (by cases e), fun e => (by cases e), fun _ => ⟨_, rfl, hsz3, laysAs_size W _ rfl⟩⟩
      rotate_left 1
      case mono => exact fun c v W W' h hE => h.mono hE
      obtain ⟨vt, hν4, hvt, hvtT⟩ := (hΦ 4 (by decide) rfl).2.1 rfl
      obtain ⟨pm, hν5, hpm, hlm⟩ := (hΦ 5 (by decide) rfl).2.2 rfl
      have hwW : w.Exts W := World.Exts.trans exq hE
      simp only [List.drop_succ_cons, List.drop_zero]
      generalize ν 4 = v4 at hν4 ⊢
      generalize ν 5 = v5 at hν5 ⊢
      subst hν4 hν5
      obtain ⟨qt, ct, et⟩ := hvt.len
      subst et
      have hEV : w.Exts (putMeas W pm g (.slice p1 g.loads.length cap1) (.slice p2 g.runners.length cap2) (.slice p3 g.strokes.length cap3) (.slice qt (totals (ts.map Prod.fst) g).length ct)) := by
        unfold putMeas
        iterate 11 refine World.Exts.setCell ?_ (by dsimp only; omega) _
        exact hwW
      have hrV := rowOff_putMeas (RowT.off1 hvt hvtT hlm (by decide)) g (.slice p1 g.loads.length cap1) (.slice p2 g.runners.length cap2) (.slice p3 g.strokes.length cap3) (.slice qt (totals (ts.map Prod.fst) g).length ct)
      have hlV := putMeas_lays g (.slice p1 g.loads.length cap1) (.slice p2 g.runners.length cap2) (.slice p3 g.strokes.length cap3) (.slice qt (totals (ts.map Prod.fst) g).length ct) hlm
      obtain ⟨V, hV⟩ : ∃ V, putMeas W pm g (.slice p1 g.loads.length cap1) (.slice p2 g.runners.length cap2) (.slice p3 g.strokes.length cap3) (.slice qt (totals (ts.map Prod.fst) g).length ct) = V := ⟨_, rfl⟩
      have m0 := LaysAs.cell hlm 0 _ rfl
      have m1 := LaysAs.cell hlm 1 _ rfl
      have m2 := LaysAs.cell hlm 2 _ rfl
      have m3 := LaysAs.cell hlm 3 _ rfl
      have m4 := LaysAs.cell hlm 4 _ rfl
      have m5 := LaysAs.cell hlm 5 _ rfl
      have m6 := LaysAs.cell hlm 6 _ rfl
      have m7 := LaysAs.cell hlm 7 _ rfl
      have m8 := LaysAs.cell hlm 8 _ rfl
      have m9 := LaysAs.cell hlm 9 _ rfl
      have m10 := LaysAs.cell hlm 10 _ rfl
      have z0 : W.frozen? ⟨pm, 0, none⟩ = false := laysAs_frozen hlm
      have z1 : W.frozen? ⟨pm, 1, none⟩ = false := laysAs_frozen hlm
      have z2 : W.frozen? ⟨pm, 2, none⟩ = false := laysAs_frozen hlm
      have z3 : W.frozen? ⟨pm, 3, none⟩ = false := laysAs_frozen hlm
      have z4 : W.frozen? ⟨pm, 4, none⟩ = false := laysAs_frozen hlm
      have z5 : W.frozen? ⟨pm, 5, none⟩ = false := laysAs_frozen hlm
      have z6 : W.frozen? ⟨pm, 6, none⟩ = false := laysAs_frozen hlm
      have z7 : W.frozen? ⟨pm, 7, none⟩ = false := laysAs_frozen hlm
      have z8 : W.frozen? ⟨pm, 8, none⟩ = false := laysAs_frozen hlm
      have z9 : W.frozen? ⟨pm, 9, none⟩ = false := laysAs_frozen hlm
      have z10 : W.frozen? ⟨pm, 10, none⟩ = false := laysAs_frozen hlm
      have lm0 := Lays.of_cell m0
      haveI : Differ pm w.heap.size := ⟨by omega⟩
      haveI : Differ pm (w.heap.size + 1) := ⟨by omega⟩
      haveI : Differ pm (w.heap.size + 1 + 1) := ⟨by omega⟩
      have b0W : W.cell? ⟨w.heap.size, 0, none⟩ = some (.slice p ts.length cap) := by obtain ⟨XX, rfl⟩ := hE; simp [go_sem]
      have b10W : W.cell? ⟨w.heap.size + 1, 0, none⟩ = some (.slice p1 g.loads.length cap1) := by obtain ⟨XX, rfl⟩ := hE; simp [go_sem]
      have b11W : W.cell? ⟨w.heap.size + 1, 1, none⟩ = some (.int .i64 g.added) := by obtain ⟨XX, rfl⟩ := hE; simp [go_sem]
      have b12W : W.cell? ⟨w.heap.size + 1, 2, none⟩ = some (.int .i64 g.base) := by obtain ⟨XX, rfl⟩ := hE; simp [go_sem]
      have b13W : W.cell? ⟨w.heap.size + 1, 3, none⟩ = some (.int .i64 g.jitter) := by obtain ⟨XX, rfl⟩ := hE; simp [go_sem]
      have b14W : W.cell? ⟨w.heap.size + 1, 4, none⟩ = some (.slice p2 g.runners.length cap2) := by obtain ⟨XX, rfl⟩ := hE; simp [go_sem]
      have b15W : W.cell? ⟨w.heap.size + 1, 5, none⟩ = some (.slice p3 g.strokes.length cap3) := by obtain ⟨XX, rfl⟩ := hE; simp [go_sem]
      have b16W : W.cell? ⟨w.heap.size + 1, 6, none⟩ = some (.int .i64 g.spread) := by obtain ⟨XX, rfl⟩ := hE; simp [go_sem]
      have b17W : W.cell? ⟨w.heap.size + 1, 7, none⟩ = some (.bool g.stamp) := by obtain ⟨XX, rfl⟩ := hE; simp [go_sem]
      have b20W : W.cell? ⟨w.heap.size + 1 + 1, 0, none⟩ = some (.int .i64 n.total.lo) := by obtain ⟨XX, rfl⟩ := hE; simp [go_sem]
      have b21W : W.cell? ⟨w.heap.size + 1 + 1, 1, none⟩ = some (.int .i64 n.total.hi) := by obtain ⟨XX, rfl⟩ := hE; simp [go_sem]
      have b22W : W.cell? ⟨w.heap.size + 1 + 1, 2, none⟩ = some (.int .i64 n.added) := by obtain ⟨XX, rfl⟩ := hE; simp [go_sem]
      have b23W : W.cell? ⟨w.heap.size + 1 + 1, 3, none⟩ = some (.int .i64 n.warm) := by obtain ⟨XX, rfl⟩ := hE; simp [go_sem]
      have b24W : W.cell? ⟨w.heap.size + 1 + 1, 4, none⟩ = some (.int .i64 n.hard.lo) := by obtain ⟨XX, rfl⟩ := hE; simp [go_sem]
      have b25W : W.cell? ⟨w.heap.size + 1 + 1, 5, none⟩ = some (.int .i64 n.hard.hi) := by obtain ⟨XX, rfl⟩ := hE; simp [go_sem]
      have b26W : W.cell? ⟨w.heap.size + 1 + 1, 6, none⟩ = some (.bool n.stamp) := by obtain ⟨XX, rfl⟩ := hE; simp [go_sem]
      have b0 : V.cell? ⟨w.heap.size, 0, none⟩ = some (.slice p ts.length cap) := by rw [← hV]; simp [putMeas, go_sem, b0W]
      have b10 : V.cell? ⟨w.heap.size + 1, 0, none⟩ = some (.slice p1 g.loads.length cap1) := by rw [← hV]; simp [putMeas, go_sem, b10W]
      have b11 : V.cell? ⟨w.heap.size + 1, 1, none⟩ = some (.int .i64 g.added) := by rw [← hV]; simp [putMeas, go_sem, b11W]
      have b12 : V.cell? ⟨w.heap.size + 1, 2, none⟩ = some (.int .i64 g.base) := by rw [← hV]; simp [putMeas, go_sem, b12W]
      have b13 : V.cell? ⟨w.heap.size + 1, 3, none⟩ = some (.int .i64 g.jitter) := by rw [← hV]; simp [putMeas, go_sem, b13W]
      have b14 : V.cell? ⟨w.heap.size + 1, 4, none⟩ = some (.slice p2 g.runners.length cap2) := by rw [← hV]; simp [putMeas, go_sem, b14W]
      have b15 : V.cell? ⟨w.heap.size + 1, 5, none⟩ = some (.slice p3 g.strokes.length cap3) := by rw [← hV]; simp [putMeas, go_sem, b15W]
      have b16 : V.cell? ⟨w.heap.size + 1, 6, none⟩ = some (.int .i64 g.spread) := by rw [← hV]; simp [putMeas, go_sem, b16W]
      have b17 : V.cell? ⟨w.heap.size + 1, 7, none⟩ = some (.bool g.stamp) := by rw [← hV]; simp [putMeas, go_sem, b17W]
      have b20 : V.cell? ⟨w.heap.size + 1 + 1, 0, none⟩ = some (.int .i64 n.total.lo) := by rw [← hV]; simp [putMeas, go_sem, b20W]
      have b21 : V.cell? ⟨w.heap.size + 1 + 1, 1, none⟩ = some (.int .i64 n.total.hi) := by rw [← hV]; simp [putMeas, go_sem, b21W]
      have b22 : V.cell? ⟨w.heap.size + 1 + 1, 2, none⟩ = some (.int .i64 n.added) := by rw [← hV]; simp [putMeas, go_sem, b22W]
      have b23 : V.cell? ⟨w.heap.size + 1 + 1, 3, none⟩ = some (.int .i64 n.warm) := by rw [← hV]; simp [putMeas, go_sem, b23W]
      have b24 : V.cell? ⟨w.heap.size + 1 + 1, 4, none⟩ = some (.int .i64 n.hard.lo) := by rw [← hV]; simp [putMeas, go_sem, b24W]
      have b25 : V.cell? ⟨w.heap.size + 1 + 1, 5, none⟩ = some (.int .i64 n.hard.hi) := by rw [← hV]; simp [putMeas, go_sem, b25W]
      have b26 : V.cell? ⟨w.heap.size + 1 + 1, 6, none⟩ = some (.bool n.stamp) := by rw [← hV]; simp [putMeas, go_sem, b26W]
      rw [hV] at hEV hrV hlV
      have HRV := Lib.hid hrV
      clear hrV
      have HLV := Lib.hid hlV
      clear hlV
      have n0 := Lays.of_cell b0
      have n1 := Lays.of_cell b10
      have n2 := Lays.of_cell b20
      clear hvt hvtT hΦ
      have hD := HD.out
      rw [hD] at hV ⊢
      simp only [List.length_nil] at hV ⊢
      clear hD
      go_wp2_with fail
      refine bodyPost_ret (v := .tuple #[.slice none 0 0, .int .u8 0, .int .i64 6]) (by simp [results, Tryz.results17, go_sem]) rfl ?_
      rw [← hV] at hEV
      unfold putMeas at hEV
      exact ⟨_, rfl, IsRow.nil _, hEV⟩
    have hdne : totals (ts.map Prod.fst) g ≠ [] := by rw [hd]; simp
    have hTf : Full (s0 :: sr) := by rw [← hd]; exact (totalsL_ok g.loads _ [⟨g.added, g.added⟩] g.added g.added ⟨fun s hs => by rw [List.mem_singleton.1 hs]; exact Int.le_refl _, List.pairwise_singleton _ _⟩ (fun s hs => by rw [List.mem_singleton.1 hs]; simp)).1.1
    rcases hard_bare hbare with ⟨hh0, hh1⟩ | hh
    · rw [judge_all hz hnb hdne hh0]
      have hP : partsJ (ts.map Prod.fst) g n = [knownR (s0 :: sr) n.total, sureR (decide (g.added ≤ n.added)), warmOf g n.warm, knownR [(hard g).1] n.hard, sureR (g.stamp || !n.stamp)] := by unfold partsJ; rw [hd]
      have hPr : ∀ x ∈ partsJ (ts.map Prod.fst) g n, x ≤ 2 := fun x hx => by
        rw [hP] at hx
        simp only [List.mem_cons, List.not_mem_nil, or_false] at hx
        have h1 := knownR_range (s0 :: sr) n.total
        have h2 := sureR_range (decide (g.added ≤ n.added))
        have h3 := warmOf_range g n.warm
        have h4 := knownR_range [(hard g).1] n.hard
        have h5 := sureR_range (g.stamp || !n.stamp)
        rcases hx with rfl | rfl | rfl | rfl | rfl <;> omega
      have hhp : hard g = ((hard g).1, 0) := by rw [← hh0]
      rw [← minOf_eq (by rw [hP]; simp) hPr]
      rw [hP]
      generalize (hard g).1 = hd1 at hhp hh1 ⊢
      generalize ha1 : knownR (s0 :: sr) n.total = a1
      generalize ha2 : sureR (decide (g.added ≤ n.added)) = a2
      generalize ha3 : warmOf g n.warm = a3
      generalize ha4 : knownR [hd1] n.hard = a4
      generalize ha5 : sureR (g.stamp || !n.stamp) = a5
      have HA1 := Lib.hid ha1
      clear ha1
      have HA2 := Lib.hid ha2
      clear ha2
      have HA3 := Lib.hid ha3
      clear ha3
      have HA4 := Lib.hid ha4
      clear ha4
      have HA5 := Lib.hid ha5
      clear ha5
      have HN := Lib.hid hnb
      clear hnb
      have HHD := Lib.hid hhp
      clear hhp
      have HD := Lib.hid hd
      clear hd
      have HTF := Lib.hid hTf
      clear hTf
      have HBARE := Lib.hid hbare
      clear hbare
      clear hz hP hPr hh0 hdne
      go_enter Tryz.func17, Tryz.ntmps17
      go_wp2_with (first
        | (go_at_call 40; refine (scale_asked_any ts _ [(g, _, _, _)] _ _ (HB.out.mono exq) (row_gear1 _ (g, _, _, _) _ (by simp)) (fun y hy => by rw [List.mem_singleton.1 hy]; exact HG.out.mono exq)).mono ?_; rintro e w' ⟨pp, rfl, hy, X2, rfl⟩; obtain ⟨_, bb, rfl, hh⟩ := hy HE.out; rw [HE.out]; have HH := Lib.hid hh; clear hh hy)
        | (go_at_call 41; refine (scale_normal_any n _).mono ?_; rintro e w' ⟨rfl, X3, rfl⟩; rw [HN.out]))
      refine wp_region_calls 6 (fun i => i == 3 || i == 4 || i == 5) (fun c v W => MeasAt (totals (ts.map Prod.fst) g) g (.slice p1 g.loads.length cap1) (.slice p2 g.runners.length cap2) (.slice p3 g.strokes.length cap3) (w.heap.size + 3) c W v) (by kernel_rfl) (fun ν => by kernel_rfl) (by kernel_rfl) (by kernel_rfl) (by kernel_rfl) (by kernel_rfl) ?mono ?_
      rotate_left 1
      apply Exists.intro
      refine ⟨fun ν L hL => ?_, fun c oc hc hU ν W hE hΦ => ?_, fun ν W hE hΦ => ?_⟩
      · simp only [modU, cOp, List.mapIdx_cons, List.mapIdx_nil, Nat.zero_add, Nat.reduceAdd, Nat.reduceBEq, Bool.or_false, Bool.false_or, Bool.or_true, Bool.true_or, Bool.or_self, Bool.false_eq_true, if_false, if_true, List.take_succ_cons, List.take_zero]
        repeat (go_big_quiet_step (fail))
        exact wpQuiet_nil hL
      · simp at hU
        have hwW : w.Exts W := World.Exts.trans exq hE
        have hsz3 : w.heap.size + 3 ≤ W.heap.size := by
          have h1 := hE.size
          have h2 := World.size_ext_le _ X2
          have h3 := World.size_ext_le _ X3
          simp at h1 h2 h3
          omega
        rcases hU with (rfl | rfl) | rfl
        · simp only [List.getElem?_cons_succ, List.getElem?_cons_zero, Option.some.injEq] at hc
          subst hc
          refine Oper.gives_fn rfl rfl rfl (enters_of Tryz.func42 (by kernel_rfl) rfl) ?_ rfl
          refine (hall_totals_own ts _ g _ _ _ _ _ (HH.out.mono (World.Exts.trans exq hE)) (HG.out.mono hwW) hn HRT.out h6 HSH.out had).mono ?_
          rintro e W' ⟨v', rfl, h1, h2, h3, _⟩
          exact ⟨v', rfl, h2, fun _ => ⟨h1, h3⟩, fun e => (by cases e), fun e => (by cases e)⟩
        · simp only [List.getElem?_cons_succ, List.getElem?_cons_zero, Option.some.injEq] at hc
          subst hc
          obtain ⟨h1, h2⟩ := (hΦ 3 rfl ⟨⟨3, .data⟩, by simp, rfl, rfl⟩).1 rfl
          obtain ⟨q3, c3, e3⟩ := h1.len
          generalize ν 3 = v3 at *
          subst e3
          exact .inr ⟨.agg #[(.slice p1 g.loads.length cap1), .int .i64 g.added, .int .i64 g.base, .int .i64 g.jitter, (.slice p2 g.runners.length cap2), (.slice p3 g.strokes.length cap3), .int .i64 g.spread, .bool g.stamp, (.slice q3 (totals (ts.map Prod.fst) g).length c3), .int .i64 (⟨0, 0⟩ : Span).lo, .int .i64 (⟨0, 0⟩ : Span).hi], W, by kernel_rfl, World.Exts.refl _, fun e => (by cases e), fun _ => ⟨_, rfl, h1, h2⟩, fun e => (by cases e)⟩
        · simp only [List.getElem?_cons_succ, List.getElem?_cons_zero, Option.some.injEq] at hc
          subst hc
          exact .inr ⟨.pointer (some ⟨W.heap.size, 0, none⟩), W.alloc (.cells #[.slice none 0 0, .int .i64 0, .int .i64 0, .int .i64 0, .slice none 0 0, .slice none 0 0, .int .i64 0, .bool false, .slice none 0 0, .int .i64 0, .int .i64 0] 118), by kernel_rfl, exq, fun e => (by cases e), fun e => (by cases e), fun _ => ⟨_, rfl, hsz3, laysAs_size W _ rfl⟩⟩
      rotate_left 1
      case mono => exact fun c v W W' h hE => h.mono hE
      obtain ⟨vt, hν4, hvt, hvtT⟩ := (hΦ 4 (by decide) rfl).2.1 rfl
      obtain ⟨pm, hν5, hpm, hlm⟩ := (hΦ 5 (by decide) rfl).2.2 rfl
      have hwW : w.Exts W := World.Exts.trans exq hE
      simp only [List.drop_succ_cons, List.drop_zero]
      generalize ν 4 = v4 at hν4 ⊢
      generalize ν 5 = v5 at hν5 ⊢
      subst hν4 hν5
      obtain ⟨qt, ct, et⟩ := hvt.len
      subst et
      have hEV : w.Exts (putMeas W pm g (.slice p1 g.loads.length cap1) (.slice p2 g.runners.length cap2) (.slice p3 g.strokes.length cap3) (.slice qt (totals (ts.map Prod.fst) g).length ct)) := by
        unfold putMeas
        iterate 11 refine World.Exts.setCell ?_ (by dsimp only; omega) _
        exact hwW
      have hrV := rowOff_putMeas (RowT.off1 hvt hvtT hlm (by decide)) g (.slice p1 g.loads.length cap1) (.slice p2 g.runners.length cap2) (.slice p3 g.strokes.length cap3) (.slice qt (totals (ts.map Prod.fst) g).length ct)
      have hlV := putMeas_lays g (.slice p1 g.loads.length cap1) (.slice p2 g.runners.length cap2) (.slice p3 g.strokes.length cap3) (.slice qt (totals (ts.map Prod.fst) g).length ct) hlm
      obtain ⟨V, hV⟩ : ∃ V, putMeas W pm g (.slice p1 g.loads.length cap1) (.slice p2 g.runners.length cap2) (.slice p3 g.strokes.length cap3) (.slice qt (totals (ts.map Prod.fst) g).length ct) = V := ⟨_, rfl⟩
      have m0 := LaysAs.cell hlm 0 _ rfl
      have m1 := LaysAs.cell hlm 1 _ rfl
      have m2 := LaysAs.cell hlm 2 _ rfl
      have m3 := LaysAs.cell hlm 3 _ rfl
      have m4 := LaysAs.cell hlm 4 _ rfl
      have m5 := LaysAs.cell hlm 5 _ rfl
      have m6 := LaysAs.cell hlm 6 _ rfl
      have m7 := LaysAs.cell hlm 7 _ rfl
      have m8 := LaysAs.cell hlm 8 _ rfl
      have m9 := LaysAs.cell hlm 9 _ rfl
      have m10 := LaysAs.cell hlm 10 _ rfl
      have z0 : W.frozen? ⟨pm, 0, none⟩ = false := laysAs_frozen hlm
      have z1 : W.frozen? ⟨pm, 1, none⟩ = false := laysAs_frozen hlm
      have z2 : W.frozen? ⟨pm, 2, none⟩ = false := laysAs_frozen hlm
      have z3 : W.frozen? ⟨pm, 3, none⟩ = false := laysAs_frozen hlm
      have z4 : W.frozen? ⟨pm, 4, none⟩ = false := laysAs_frozen hlm
      have z5 : W.frozen? ⟨pm, 5, none⟩ = false := laysAs_frozen hlm
      have z6 : W.frozen? ⟨pm, 6, none⟩ = false := laysAs_frozen hlm
      have z7 : W.frozen? ⟨pm, 7, none⟩ = false := laysAs_frozen hlm
      have z8 : W.frozen? ⟨pm, 8, none⟩ = false := laysAs_frozen hlm
      have z9 : W.frozen? ⟨pm, 9, none⟩ = false := laysAs_frozen hlm
      have z10 : W.frozen? ⟨pm, 10, none⟩ = false := laysAs_frozen hlm
      have lm0 := Lays.of_cell m0
      haveI : Differ pm w.heap.size := ⟨by omega⟩
      haveI : Differ pm (w.heap.size + 1) := ⟨by omega⟩
      haveI : Differ pm (w.heap.size + 1 + 1) := ⟨by omega⟩
      have b0W : W.cell? ⟨w.heap.size, 0, none⟩ = some (.slice p ts.length cap) := by obtain ⟨XX, rfl⟩ := hE; simp [go_sem]
      have b10W : W.cell? ⟨w.heap.size + 1, 0, none⟩ = some (.slice p1 g.loads.length cap1) := by obtain ⟨XX, rfl⟩ := hE; simp [go_sem]
      have b11W : W.cell? ⟨w.heap.size + 1, 1, none⟩ = some (.int .i64 g.added) := by obtain ⟨XX, rfl⟩ := hE; simp [go_sem]
      have b12W : W.cell? ⟨w.heap.size + 1, 2, none⟩ = some (.int .i64 g.base) := by obtain ⟨XX, rfl⟩ := hE; simp [go_sem]
      have b13W : W.cell? ⟨w.heap.size + 1, 3, none⟩ = some (.int .i64 g.jitter) := by obtain ⟨XX, rfl⟩ := hE; simp [go_sem]
      have b14W : W.cell? ⟨w.heap.size + 1, 4, none⟩ = some (.slice p2 g.runners.length cap2) := by obtain ⟨XX, rfl⟩ := hE; simp [go_sem]
      have b15W : W.cell? ⟨w.heap.size + 1, 5, none⟩ = some (.slice p3 g.strokes.length cap3) := by obtain ⟨XX, rfl⟩ := hE; simp [go_sem]
      have b16W : W.cell? ⟨w.heap.size + 1, 6, none⟩ = some (.int .i64 g.spread) := by obtain ⟨XX, rfl⟩ := hE; simp [go_sem]
      have b17W : W.cell? ⟨w.heap.size + 1, 7, none⟩ = some (.bool g.stamp) := by obtain ⟨XX, rfl⟩ := hE; simp [go_sem]
      have b20W : W.cell? ⟨w.heap.size + 1 + 1, 0, none⟩ = some (.int .i64 n.total.lo) := by obtain ⟨XX, rfl⟩ := hE; simp [go_sem]
      have b21W : W.cell? ⟨w.heap.size + 1 + 1, 1, none⟩ = some (.int .i64 n.total.hi) := by obtain ⟨XX, rfl⟩ := hE; simp [go_sem]
      have b22W : W.cell? ⟨w.heap.size + 1 + 1, 2, none⟩ = some (.int .i64 n.added) := by obtain ⟨XX, rfl⟩ := hE; simp [go_sem]
      have b23W : W.cell? ⟨w.heap.size + 1 + 1, 3, none⟩ = some (.int .i64 n.warm) := by obtain ⟨XX, rfl⟩ := hE; simp [go_sem]
      have b24W : W.cell? ⟨w.heap.size + 1 + 1, 4, none⟩ = some (.int .i64 n.hard.lo) := by obtain ⟨XX, rfl⟩ := hE; simp [go_sem]
      have b25W : W.cell? ⟨w.heap.size + 1 + 1, 5, none⟩ = some (.int .i64 n.hard.hi) := by obtain ⟨XX, rfl⟩ := hE; simp [go_sem]
      have b26W : W.cell? ⟨w.heap.size + 1 + 1, 6, none⟩ = some (.bool n.stamp) := by obtain ⟨XX, rfl⟩ := hE; simp [go_sem]
      have b0 : V.cell? ⟨w.heap.size, 0, none⟩ = some (.slice p ts.length cap) := by rw [← hV]; simp [putMeas, go_sem, b0W]
      have b10 : V.cell? ⟨w.heap.size + 1, 0, none⟩ = some (.slice p1 g.loads.length cap1) := by rw [← hV]; simp [putMeas, go_sem, b10W]
      have b11 : V.cell? ⟨w.heap.size + 1, 1, none⟩ = some (.int .i64 g.added) := by rw [← hV]; simp [putMeas, go_sem, b11W]
      have b12 : V.cell? ⟨w.heap.size + 1, 2, none⟩ = some (.int .i64 g.base) := by rw [← hV]; simp [putMeas, go_sem, b12W]
      have b13 : V.cell? ⟨w.heap.size + 1, 3, none⟩ = some (.int .i64 g.jitter) := by rw [← hV]; simp [putMeas, go_sem, b13W]
      have b14 : V.cell? ⟨w.heap.size + 1, 4, none⟩ = some (.slice p2 g.runners.length cap2) := by rw [← hV]; simp [putMeas, go_sem, b14W]
      have b15 : V.cell? ⟨w.heap.size + 1, 5, none⟩ = some (.slice p3 g.strokes.length cap3) := by rw [← hV]; simp [putMeas, go_sem, b15W]
      have b16 : V.cell? ⟨w.heap.size + 1, 6, none⟩ = some (.int .i64 g.spread) := by rw [← hV]; simp [putMeas, go_sem, b16W]
      have b17 : V.cell? ⟨w.heap.size + 1, 7, none⟩ = some (.bool g.stamp) := by rw [← hV]; simp [putMeas, go_sem, b17W]
      have b20 : V.cell? ⟨w.heap.size + 1 + 1, 0, none⟩ = some (.int .i64 n.total.lo) := by rw [← hV]; simp [putMeas, go_sem, b20W]
      have b21 : V.cell? ⟨w.heap.size + 1 + 1, 1, none⟩ = some (.int .i64 n.total.hi) := by rw [← hV]; simp [putMeas, go_sem, b21W]
      have b22 : V.cell? ⟨w.heap.size + 1 + 1, 2, none⟩ = some (.int .i64 n.added) := by rw [← hV]; simp [putMeas, go_sem, b22W]
      have b23 : V.cell? ⟨w.heap.size + 1 + 1, 3, none⟩ = some (.int .i64 n.warm) := by rw [← hV]; simp [putMeas, go_sem, b23W]
      have b24 : V.cell? ⟨w.heap.size + 1 + 1, 4, none⟩ = some (.int .i64 n.hard.lo) := by rw [← hV]; simp [putMeas, go_sem, b24W]
      have b25 : V.cell? ⟨w.heap.size + 1 + 1, 5, none⟩ = some (.int .i64 n.hard.hi) := by rw [← hV]; simp [putMeas, go_sem, b25W]
      have b26 : V.cell? ⟨w.heap.size + 1 + 1, 6, none⟩ = some (.bool n.stamp) := by rw [← hV]; simp [putMeas, go_sem, b26W]
      rw [hV] at hEV hrV hlV
      have HRV := Lib.hid hrV
      clear hrV
      have HLV := Lib.hid hlV
      clear hlV
      have n0 := Lays.of_cell b0
      have n1 := Lays.of_cell b10
      have n2 := Lays.of_cell b20
      clear hvt hvtT hΦ
      have hD := HD.out
      rw [hD] at hV HRV HLV ⊢
      simp only [List.length_cons] at hV HLV ⊢
      clear hD
      go_wp2_with fail
      change Calls Tryz.prog 43 _ (putMeas W pm g (.slice p1 g.loads.length cap1) (.slice p2 g.runners.length cap2) (.slice p3 g.strokes.length cap3) (.slice qt (sr.length + 1) ct)) _
      rw [hV]
      have q0 := LaysAs.cell HLV.out 0 _ rfl
      have q1 := LaysAs.cell HLV.out 1 _ rfl
      have q2 := LaysAs.cell HLV.out 2 _ rfl
      have q3 := LaysAs.cell HLV.out 3 _ rfl
      have q4 := LaysAs.cell HLV.out 4 _ rfl
      have q5 := LaysAs.cell HLV.out 5 _ rfl
      have q6 := LaysAs.cell HLV.out 6 _ rfl
      have q7 := LaysAs.cell HLV.out 7 _ rfl
      have q8 := LaysAs.cell HLV.out 8 _ rfl
      have q9 := LaysAs.cell HLV.out 9 _ rfl
      have q10 := LaysAs.cell HLV.out 10 _ rfl
      have y9 : V.frozen? ⟨pm, 9, none⟩ = false := laysAs_frozen HLV.out
      have y10 : V.frozen? ⟨pm, 10, none⟩ = false := laysAs_frozen HLV.out
      have lq0 := Lays.of_cell q0
      clear m0 z0 m1 z1 m2 z2 m3 z3 m4 z4 m5 z5 m6 z6 m7 z7 m8 z8 m9 z9 m10 z10 b0W b10W b11W b12W b13W b14W b15W b16W b17W b20W b21W b22W b23W b24W b25W b26W lm0 hV hwW hE hlm
      clear W
      go_wp2_with (go_at_call 43; refine (scale_Hard_any g _ _ _ _ (HG.out.mono (exf hEV))).mono ?_; rw [HHD.out]; rintro e w' ⟨rfl, X5, rfl⟩)
      have hM2 := LaysAs.set (i := 10) (LaysAs.set (i := 9) (LaysAs.exts HLV.out (⟨X5, rfl⟩ : V.Exts (V.ext X5))) (.int .i64 hd1.lo)) (.int .i64 hd1.hi)
      have hE2 : w.Exts (((World.ext _ X5).setCell ⟨pm, 9, none⟩ (.int .i64 hd1.lo)).setCell ⟨pm, 10, none⟩ (.int .i64 hd1.hi)) := (exf hEV)
      have hT2 := (((HRV.out.exts (⟨X5, rfl⟩ : V.Exts (V.ext X5))).set (a := ⟨pm, 9, none⟩) (by simp) (.int .i64 hd1.lo)).set (a := ⟨pm, 10, none⟩) (by simp) (.int .i64 hd1.hi)).row
      have d20 : World.cell? (((World.ext _ X5).setCell ⟨pm, 9, none⟩ (.int .i64 hd1.lo)).setCell ⟨pm, 10, none⟩ (.int .i64 hd1.hi)) ⟨w.heap.size + 1 + 1, 0, none⟩ = some (.int .i64 n.total.lo) := by simp [go_sem, b20]
      have d21 : World.cell? (((World.ext _ X5).setCell ⟨pm, 9, none⟩ (.int .i64 hd1.lo)).setCell ⟨pm, 10, none⟩ (.int .i64 hd1.hi)) ⟨w.heap.size + 1 + 1, 1, none⟩ = some (.int .i64 n.total.hi) := by simp [go_sem, b21]
      have d22 : World.cell? (((World.ext _ X5).setCell ⟨pm, 9, none⟩ (.int .i64 hd1.lo)).setCell ⟨pm, 10, none⟩ (.int .i64 hd1.hi)) ⟨w.heap.size + 1 + 1, 2, none⟩ = some (.int .i64 n.added) := by simp [go_sem, b22]
      have d23 : World.cell? (((World.ext _ X5).setCell ⟨pm, 9, none⟩ (.int .i64 hd1.lo)).setCell ⟨pm, 10, none⟩ (.int .i64 hd1.hi)) ⟨w.heap.size + 1 + 1, 3, none⟩ = some (.int .i64 n.warm) := by simp [go_sem, b23]
      have d24 : World.cell? (((World.ext _ X5).setCell ⟨pm, 9, none⟩ (.int .i64 hd1.lo)).setCell ⟨pm, 10, none⟩ (.int .i64 hd1.hi)) ⟨w.heap.size + 1 + 1, 4, none⟩ = some (.int .i64 n.hard.lo) := by simp [go_sem, b24]
      have d25 : World.cell? (((World.ext _ X5).setCell ⟨pm, 9, none⟩ (.int .i64 hd1.lo)).setCell ⟨pm, 10, none⟩ (.int .i64 hd1.hi)) ⟨w.heap.size + 1 + 1, 5, none⟩ = some (.int .i64 n.hard.hi) := by simp [go_sem, b25]
      have d26 : World.cell? (((World.ext _ X5).setCell ⟨pm, 9, none⟩ (.int .i64 hd1.lo)).setCell ⟨pm, 10, none⟩ (.int .i64 hd1.hi)) ⟨w.heap.size + 1 + 1, 6, none⟩ = some (.bool n.stamp) := by simp [go_sem, b26]
      generalize hV2 : (((World.ext _ X5).setCell ⟨pm, 9, none⟩ (.int .i64 hd1.lo)).setCell ⟨pm, 10, none⟩ (.int .i64 hd1.hi)) = V2 at *
      have p0' := LaysAs.cell hM2 0 _ rfl
      have p1' := LaysAs.cell hM2 1 _ rfl
      have p2' := LaysAs.cell hM2 2 _ rfl
      have p3' := LaysAs.cell hM2 3 _ rfl
      have p4' := LaysAs.cell hM2 4 _ rfl
      have p5' := LaysAs.cell hM2 5 _ rfl
      have p6' := LaysAs.cell hM2 6 _ rfl
      have p7' := LaysAs.cell hM2 7 _ rfl
      have p8' := LaysAs.cell hM2 8 _ rfl
      have p9' := LaysAs.cell hM2 9 _ rfl
      have p10' := LaysAs.cell hM2 10 _ rfl
      have hlp := Lays.of_cell p0'
      have hln := Lays.of_cell d20
      have hcd2 := HCD.out.mono hE2
      have e0 := hcd2.c0
      have e1 := hcd2.c1
      have e2 := hcd2.c2
      have e3 := hcd2.c3
      have e4 := hcd2.c4
      have hl0 := Lays.of_cell e0
      have hg2 := HG.out.mono hE2
      have HT2 := Lib.hid hT2
      clear hT2
      have HG2 := Lib.hid hg2
      clear hg2
      clear hM2 hcd2 hV2
      clear q0 q1 q2 q3 q4 q5 q6 q7 q8 q9 q10 y9 y10 lq0
      clear b0 b10 b11 b12 b13 b14 b15 b16 b17 b20 b21 b22 b23 b24 b25 b26 n0 n1 n2 hEV HRV HLV X5
      clear V
      go_loopw [6, 43] (fun out i wr => ∃ k : Nat, k ≤ 5 ∧ i = .int .i64 k ∧ Hid (wr.ownsRow V2.heap.size 5 1 out (([a1, a2, a3, a4, a5] : List Int).take k).length (u8Cs (([a1, a2, a3, a4, a5] : List Int).take k))) ∧ V2.Exts wr) (fun _ i _ => 5 - (intOf i).toNat)
      case atStart => exact ⟨0, by omega, rfl, Lib.hid (World.ownsRow_nil _ _ _ _), World.Exts.refl _⟩
      case round =>
        obtain ⟨k, hk, rfl, HO, hE⟩ := hrel
        obtain ⟨X, rfl⟩ := hE
        rcases (by omega : k = 0 ∨ k = 1 ∨ k = 2 ∨ k = 3 ∨ k = 4 ∨ k = 5) with rfl | rfl | rfl | rfl | rfl | rfl
        · go_wp2_with fail
          refine wp_region_calls 9 (fun i => i == 7 || i == 8) (fun c v W => CondOne a1 c W v) (by kernel_rfl) (fun ν => by kernel_rfl) (by kernel_rfl) (by kernel_rfl) (by kernel_rfl) (by kernel_rfl) ?mono ?_
          rotate_left 1
          apply Exists.intro
          refine ⟨fun ν L hL => ?_, fun c oc hc hU ν W hE hΦ => ?_, fun ν W hE hΦ => ?_⟩
          · simp only [modU, cOp, List.mapIdx_cons, List.mapIdx_nil, Nat.zero_add, Nat.reduceAdd, Nat.reduceBEq, Bool.or_false, Bool.false_or, Bool.or_true, Bool.true_or, Bool.or_self, Bool.false_eq_true, if_false, if_true, List.take_succ_cons, List.take_zero]
            repeat (go_big_quiet_step (fail))
            exact wpQuiet_nil hL
          · simp at hU
            have hVW : V2.Exts W := World.Exts.trans exq hE
            rcases hU with rfl | rfl
            · simp only [List.getElem?_cons_succ, List.getElem?_cons_zero, Option.some.injEq] at hc
              subst hc
              refine gives_val rfl rfl rfl (enters_of Tryz.func247 (by kernel_rfl) rfl) ?_ rfl
              refine (scale_conditions_1_any g _ _ _ _ (s0 :: sr) hd1 n _ (HT2.out.mono hVW) HTF.out).mono ?_
              rintro e W' ⟨rfl, h2⟩
              exact ⟨_, rfl, h2, fun _ => congrArg (Value.int .u8) HA1.out, fun e => (by cases e)⟩
            · simp only [List.getElem?_cons_succ, List.getElem?_cons_zero, Option.some.injEq] at hc
              subst hc
              have h7 := (hΦ 7 rfl ⟨⟨7, .data⟩, by simp, rfl, rfl⟩).1 rfl
              generalize ν 7 = v7 at *
              subst h7
              exact .inr ⟨.slice (some ⟨W.heap.size, 0, none⟩) 1 1, W.alloc (.cells #[.int .u8 a1] 5), by kernel_rfl, exq, fun e => (by cases e), fun _ => ⟨_, rfl, by simp⟩⟩
          rotate_left 1
          case mono => exact fun c v W W' h hE => h.mono hE
          obtain ⟨nb, e8, hnb⟩ := (hΦ 8 (by decide) rfl).2 rfl
          simp only [List.drop_succ_cons, List.drop_zero]
          generalize ν 8 = v8 at *
          subst e8
          go_wp2_with (at_builtin; refine wpList_appendG (.tmp 46) (.tmp 54) elem_u8 rfl rfl (World.ext V2 X) hE rfl HO.out [.int .u8 a1] nb rfl ?hc rfl ?h1 ?h2 (by decide) (World.Exts.size exq) ?_)
          case hc => (intro j u hj; match j, hj with | 0, hj => (simp at hj; subst hj; exact hnb))
          case h1 => intro u hu; simp at hu; subst hu; rfl
          case h2 => (simp <;> omega)
          intro v' w' hown' happ
          have hE9 := happ.exts V2 exq (Nat.le_refl _)
          have HO3 := Lib.hid hown'
          clear hown'
          have HE9 := Lib.hid hE9
          clear hE9
          clear happ
          go_wp2_with fail
          go_roundw
          case rel => exact ⟨1, by omega, by go_num, Lib.hid HO3.out, HE9.out⟩
          case measure => simp [intOf]
        · go_wp2_with fail
          refine wp_region_calls 9 (fun i => i == 7 || i == 8) (fun c v W => CondOne a2 c W v) (by kernel_rfl) (fun ν => by kernel_rfl) (by kernel_rfl) (by kernel_rfl) (by kernel_rfl) (by kernel_rfl) ?mono ?_
          rotate_left 1
          apply Exists.intro
          refine ⟨fun ν L hL => ?_, fun c oc hc hU ν W hE hΦ => ?_, fun ν W hE hΦ => ?_⟩
          · simp only [modU, cOp, List.mapIdx_cons, List.mapIdx_nil, Nat.zero_add, Nat.reduceAdd, Nat.reduceBEq, Bool.or_false, Bool.false_or, Bool.or_true, Bool.true_or, Bool.or_self, Bool.false_eq_true, if_false, if_true, List.take_succ_cons, List.take_zero]
            repeat (go_big_quiet_step (fail))
            exact wpQuiet_nil hL
          · simp at hU
            have hVW : V2.Exts W := World.Exts.trans exq hE
            rcases hU with rfl | rfl
            · simp only [List.getElem?_cons_succ, List.getElem?_cons_zero, Option.some.injEq] at hc
              subst hc
              refine gives_val rfl rfl rfl (enters_of Tryz.func249 (by kernel_rfl) rfl) ?_ rfl
              refine (scale_conditions_2_any g _ _ _ _ hd1 n _).mono ?_
              rintro e W' ⟨rfl, h2⟩
              exact ⟨_, rfl, h2, fun _ => congrArg (Value.int .u8) HA2.out, fun e => (by cases e)⟩
            · simp only [List.getElem?_cons_succ, List.getElem?_cons_zero, Option.some.injEq] at hc
              subst hc
              have h7 := (hΦ 7 rfl ⟨⟨7, .data⟩, by simp, rfl, rfl⟩).1 rfl
              generalize ν 7 = v7 at *
              subst h7
              exact .inr ⟨.slice (some ⟨W.heap.size, 0, none⟩) 1 1, W.alloc (.cells #[.int .u8 a2] 5), by kernel_rfl, exq, fun e => (by cases e), fun _ => ⟨_, rfl, by simp⟩⟩
          rotate_left 1
          case mono => exact fun c v W W' h hE => h.mono hE
          obtain ⟨nb, e8, hnb⟩ := (hΦ 8 (by decide) rfl).2 rfl
          simp only [List.drop_succ_cons, List.drop_zero]
          generalize ν 8 = v8 at *
          subst e8
          go_wp2_with (at_builtin; refine wpList_appendG (.tmp 46) (.tmp 54) elem_u8 rfl rfl (World.ext V2 X) hE rfl HO.out [.int .u8 a2] nb rfl ?hc rfl ?h1 ?h2 (by decide) (World.Exts.size exq) ?_)
          case hc => (intro j u hj; match j, hj with | 0, hj => (simp at hj; subst hj; exact hnb))
          case h1 => intro u hu; simp at hu; subst hu; rfl
          case h2 => (simp <;> omega)
          intro v' w' hown' happ
          have hE9 := happ.exts V2 exq (Nat.le_refl _)
          have HO3 := Lib.hid hown'
          clear hown'
          have HE9 := Lib.hid hE9
          clear hE9
          clear happ
          go_wp2_with fail
          go_roundw
          case rel => exact ⟨2, by omega, by go_num, Lib.hid HO3.out, HE9.out⟩
          case measure => simp [intOf]
        · go_wp2_with fail
          refine wp_region_calls 9 (fun i => i == 7 || i == 8) (fun c v W => CondOne a3 c W v) (by kernel_rfl) (fun ν => by kernel_rfl) (by kernel_rfl) (by kernel_rfl) (by kernel_rfl) (by kernel_rfl) ?mono ?_
          rotate_left 1
          apply Exists.intro
          refine ⟨fun ν L hL => ?_, fun c oc hc hU ν W hE hΦ => ?_, fun ν W hE hΦ => ?_⟩
          · simp only [modU, cOp, List.mapIdx_cons, List.mapIdx_nil, Nat.zero_add, Nat.reduceAdd, Nat.reduceBEq, Bool.or_false, Bool.false_or, Bool.or_true, Bool.true_or, Bool.or_self, Bool.false_eq_true, if_false, if_true, List.take_succ_cons, List.take_zero]
            repeat (go_big_quiet_step (fail))
            exact wpQuiet_nil hL
          · simp at hU
            have hVW : V2.Exts W := World.Exts.trans exq hE
            rcases hU with rfl | rfl
            · simp only [List.getElem?_cons_succ, List.getElem?_cons_zero, Option.some.injEq] at hc
              subst hc
              refine gives_val rfl rfl rfl (enters_of Tryz.func251 (by kernel_rfl) rfl) ?_ rfl
              refine (scale_conditions_3_any g _ _ _ _ hd1 n _ (HG2.out.mono hVW) ⟨_, _, _, rfl⟩ HBARE.out).mono ?_
              rintro e W' ⟨rfl, h2⟩
              exact ⟨_, rfl, h2, fun _ => congrArg (Value.int .u8) HA3.out, fun e => (by cases e)⟩
            · simp only [List.getElem?_cons_succ, List.getElem?_cons_zero, Option.some.injEq] at hc
              subst hc
              have h7 := (hΦ 7 rfl ⟨⟨7, .data⟩, by simp, rfl, rfl⟩).1 rfl
              generalize ν 7 = v7 at *
              subst h7
              exact .inr ⟨.slice (some ⟨W.heap.size, 0, none⟩) 1 1, W.alloc (.cells #[.int .u8 a3] 5), by kernel_rfl, exq, fun e => (by cases e), fun _ => ⟨_, rfl, by simp⟩⟩
          rotate_left 1
          case mono => exact fun c v W W' h hE => h.mono hE
          obtain ⟨nb, e8, hnb⟩ := (hΦ 8 (by decide) rfl).2 rfl
          simp only [List.drop_succ_cons, List.drop_zero]
          generalize ν 8 = v8 at *
          subst e8
          go_wp2_with (at_builtin; refine wpList_appendG (.tmp 46) (.tmp 54) elem_u8 rfl rfl (World.ext V2 X) hE rfl HO.out [.int .u8 a3] nb rfl ?hc rfl ?h1 ?h2 (by decide) (World.Exts.size exq) ?_)
          case hc => (intro j u hj; match j, hj with | 0, hj => (simp at hj; subst hj; exact hnb))
          case h1 => intro u hu; simp at hu; subst hu; rfl
          case h2 => (simp <;> omega)
          intro v' w' hown' happ
          have hE9 := happ.exts V2 exq (Nat.le_refl _)
          have HO3 := Lib.hid hown'
          clear hown'
          have HE9 := Lib.hid hE9
          clear hE9
          clear happ
          go_wp2_with fail
          go_roundw
          case rel => exact ⟨3, by omega, by go_num, Lib.hid HO3.out, HE9.out⟩
          case measure => simp [intOf]
        · go_wp2_with fail
          refine wp_region_calls 9 (fun i => i == 7 || i == 8) (fun c v W => CondOne a4 c W v) (by kernel_rfl) (fun ν => by kernel_rfl) (by kernel_rfl) (by kernel_rfl) (by kernel_rfl) (by kernel_rfl) ?mono ?_
          rotate_left 1
          apply Exists.intro
          refine ⟨fun ν L hL => ?_, fun c oc hc hU ν W hE hΦ => ?_, fun ν W hE hΦ => ?_⟩
          · simp only [modU, cOp, List.mapIdx_cons, List.mapIdx_nil, Nat.zero_add, Nat.reduceAdd, Nat.reduceBEq, Bool.or_false, Bool.false_or, Bool.or_true, Bool.true_or, Bool.or_self, Bool.false_eq_true, if_false, if_true, List.take_succ_cons, List.take_zero]
            repeat (go_big_quiet_step (fail))
            exact wpQuiet_nil hL
          · simp at hU
            have hVW : V2.Exts W := World.Exts.trans exq hE
            rcases hU with rfl | rfl
            · simp only [List.getElem?_cons_succ, List.getElem?_cons_zero, Option.some.injEq] at hc
              subst hc
              refine gives_val rfl rfl rfl (enters_of Tryz.func253 (by kernel_rfl) rfl) ?_ rfl
              refine (scale_conditions_4_any g _ _ _ _ hd1 n _ hh1).mono ?_
              rintro e W' ⟨rfl, h2⟩
              exact ⟨_, rfl, h2, fun _ => congrArg (Value.int .u8) HA4.out, fun e => (by cases e)⟩
            · simp only [List.getElem?_cons_succ, List.getElem?_cons_zero, Option.some.injEq] at hc
              subst hc
              have h7 := (hΦ 7 rfl ⟨⟨7, .data⟩, by simp, rfl, rfl⟩).1 rfl
              generalize ν 7 = v7 at *
              subst h7
              exact .inr ⟨.slice (some ⟨W.heap.size, 0, none⟩) 1 1, W.alloc (.cells #[.int .u8 a4] 5), by kernel_rfl, exq, fun e => (by cases e), fun _ => ⟨_, rfl, by simp⟩⟩
          rotate_left 1
          case mono => exact fun c v W W' h hE => h.mono hE
          obtain ⟨nb, e8, hnb⟩ := (hΦ 8 (by decide) rfl).2 rfl
          simp only [List.drop_succ_cons, List.drop_zero]
          generalize ν 8 = v8 at *
          subst e8
          go_wp2_with (at_builtin; refine wpList_appendG (.tmp 46) (.tmp 54) elem_u8 rfl rfl (World.ext V2 X) hE rfl HO.out [.int .u8 a4] nb rfl ?hc rfl ?h1 ?h2 (by decide) (World.Exts.size exq) ?_)
          case hc => (intro j u hj; match j, hj with | 0, hj => (simp at hj; subst hj; exact hnb))
          case h1 => intro u hu; simp at hu; subst hu; rfl
          case h2 => (simp <;> omega)
          intro v' w' hown' happ
          have hE9 := happ.exts V2 exq (Nat.le_refl _)
          have HO3 := Lib.hid hown'
          clear hown'
          have HE9 := Lib.hid hE9
          clear hE9
          clear happ
          go_wp2_with fail
          go_roundw
          case rel => exact ⟨4, by omega, by go_num, Lib.hid HO3.out, HE9.out⟩
          case measure => simp [intOf]
        · go_wp2_with fail
          refine wp_region_calls 9 (fun i => i == 7 || i == 8) (fun c v W => CondOne a5 c W v) (by kernel_rfl) (fun ν => by kernel_rfl) (by kernel_rfl) (by kernel_rfl) (by kernel_rfl) (by kernel_rfl) ?mono ?_
          rotate_left 1
          apply Exists.intro
          refine ⟨fun ν L hL => ?_, fun c oc hc hU ν W hE hΦ => ?_, fun ν W hE hΦ => ?_⟩
          · simp only [modU, cOp, List.mapIdx_cons, List.mapIdx_nil, Nat.zero_add, Nat.reduceAdd, Nat.reduceBEq, Bool.or_false, Bool.false_or, Bool.or_true, Bool.true_or, Bool.or_self, Bool.false_eq_true, if_false, if_true, List.take_succ_cons, List.take_zero]
            repeat (go_big_quiet_step (fail))
            exact wpQuiet_nil hL
          · simp at hU
            have hVW : V2.Exts W := World.Exts.trans exq hE
            rcases hU with rfl | rfl
            · simp only [List.getElem?_cons_succ, List.getElem?_cons_zero, Option.some.injEq] at hc
              subst hc
              refine gives_val rfl rfl rfl (enters_of Tryz.func254 (by kernel_rfl) rfl) ?_ rfl
              refine (scale_conditions_5_any g _ _ _ _ hd1 n _).mono ?_
              rintro e W' ⟨rfl, h2⟩
              exact ⟨_, rfl, h2, fun _ => congrArg (Value.int .u8) HA5.out, fun e => (by cases e)⟩
            · simp only [List.getElem?_cons_succ, List.getElem?_cons_zero, Option.some.injEq] at hc
              subst hc
              have h7 := (hΦ 7 rfl ⟨⟨7, .data⟩, by simp, rfl, rfl⟩).1 rfl
              generalize ν 7 = v7 at *
              subst h7
              exact .inr ⟨.slice (some ⟨W.heap.size, 0, none⟩) 1 1, W.alloc (.cells #[.int .u8 a5] 5), by kernel_rfl, exq, fun e => (by cases e), fun _ => ⟨_, rfl, by simp⟩⟩
          rotate_left 1
          case mono => exact fun c v W W' h hE => h.mono hE
          obtain ⟨nb, e8, hnb⟩ := (hΦ 8 (by decide) rfl).2 rfl
          simp only [List.drop_succ_cons, List.drop_zero]
          generalize ν 8 = v8 at *
          subst e8
          go_wp2_with (at_builtin; refine wpList_appendG (.tmp 46) (.tmp 54) elem_u8 rfl rfl (World.ext V2 X) hE rfl HO.out [.int .u8 a5] nb rfl ?hc rfl ?h1 ?h2 (by decide) (World.Exts.size exq) ?_)
          case hc => (intro j u hj; match j, hj with | 0, hj => (simp at hj; subst hj; exact hnb))
          case h1 => intro u hu; simp at hu; subst hu; rfl
          case h2 => (simp <;> omega)
          intro v' w' hown' happ
          have hE9 := happ.exts V2 exq (Nat.le_refl _)
          have HO3 := Lib.hid hown'
          clear hown'
          have HE9 := Lib.hid hE9
          clear hE9
          clear happ
          go_wp2_with fail
          go_roundw
          case rel => exact ⟨5, by omega, by go_num, Lib.hid HO3.out, HE9.out⟩
          case measure => simp [intOf]
        · have hrw := row_u8 HO.out
          obtain ⟨qo, co, eo⟩ := hrw.len
          subst eo
          simp only [List.take_succ_cons, List.take_zero, List.length_cons, List.length_nil, Nat.reduceAdd] at hrw ⊢
          have HRW := Lib.hid hrw
          clear hrw
          clear HO
          go_wp2_with (go_at_call 44; refine (Min_uint8_any [a1, a2, a3, a4, a5] _ _ (HRW.out.mono exq) (by simp)).mono ?_; rintro e w' ⟨rfl, X6, rfl⟩)
          refine bodyPost_ret (v := .tuple #[.slice qo 5 co, .int .u8 (minL [a1, a2, a3, a4, a5]), .int .i64 0]) (by simp [results, Tryz.results17, go_sem]) rfl ?_
          exact ⟨_, rfl, HRW.out.mono exq, (exf hE2)⟩
    · rw [judge_bad hz hnb hdne (by rw [hh]; decide), hh]
      have HN := Lib.hid hnb
      clear hnb
      have HHD := Lib.hid hh
      clear hh
      have HD := Lib.hid hd
      clear hd
      clear hz hTf hdne hbare
      go_enter Tryz.func17, Tryz.ntmps17
      go_wp2_with (first
        | (go_at_call 40; refine (scale_asked_any ts _ [(g, _, _, _)] _ _ (HB.out.mono exq) (row_gear1 _ (g, _, _, _) _ (by simp)) (fun y hy => by rw [List.mem_singleton.1 hy]; exact HG.out.mono exq)).mono ?_; rintro e w' ⟨pp, rfl, hy, X2, rfl⟩; obtain ⟨_, bb, rfl, hh⟩ := hy HE.out; rw [HE.out]; have HH := Lib.hid hh; clear hh hy)
        | (go_at_call 41; refine (scale_normal_any n _).mono ?_; rintro e w' ⟨rfl, X3, rfl⟩; rw [HN.out]))
      refine wp_region_calls 6 (fun i => i == 3 || i == 4 || i == 5) (fun c v W => MeasAt (totals (ts.map Prod.fst) g) g (.slice p1 g.loads.length cap1) (.slice p2 g.runners.length cap2) (.slice p3 g.strokes.length cap3) (w.heap.size + 3) c W v) (by kernel_rfl) (fun ν => by kernel_rfl) (by kernel_rfl) (by kernel_rfl) (by kernel_rfl) (by kernel_rfl) ?mono ?_
      rotate_left 1
      apply Exists.intro
      refine ⟨fun ν L hL => ?_, fun c oc hc hU ν W hE hΦ => ?_, fun ν W hE hΦ => ?_⟩
      · simp only [modU, cOp, List.mapIdx_cons, List.mapIdx_nil, Nat.zero_add, Nat.reduceAdd, Nat.reduceBEq, Bool.or_false, Bool.false_or, Bool.or_true, Bool.true_or, Bool.or_self, Bool.false_eq_true, if_false, if_true, List.take_succ_cons, List.take_zero]
        repeat (go_big_quiet_step (fail))
        exact wpQuiet_nil hL
      · simp at hU
        have hwW : w.Exts W := World.Exts.trans exq hE
        have hsz3 : w.heap.size + 3 ≤ W.heap.size := by
          have h1 := hE.size
          have h2 := World.size_ext_le _ X2
          have h3 := World.size_ext_le _ X3
          simp at h1 h2 h3
          omega
        rcases hU with (rfl | rfl) | rfl
        · simp only [List.getElem?_cons_succ, List.getElem?_cons_zero, Option.some.injEq] at hc
          subst hc
          refine Oper.gives_fn rfl rfl rfl (enters_of Tryz.func42 (by kernel_rfl) rfl) ?_ rfl
          refine (hall_totals_own ts _ g _ _ _ _ _ (HH.out.mono (World.Exts.trans exq hE)) (HG.out.mono hwW) hn HRT.out h6 HSH.out had).mono ?_
          rintro e W' ⟨v', rfl, h1, h2, h3, _⟩
          exact ⟨v', rfl, h2, fun _ => ⟨h1, h3⟩, fun e => (by cases e), fun e => (by cases e)⟩
        · simp only [List.getElem?_cons_succ, List.getElem?_cons_zero, Option.some.injEq] at hc
          subst hc
          obtain ⟨h1, h2⟩ := (hΦ 3 rfl ⟨⟨3, .data⟩, by simp, rfl, rfl⟩).1 rfl
          obtain ⟨q3, c3, e3⟩ := h1.len
          generalize ν 3 = v3 at *
          subst e3
          exact .inr ⟨.agg #[(.slice p1 g.loads.length cap1), .int .i64 g.added, .int .i64 g.base, .int .i64 g.jitter, (.slice p2 g.runners.length cap2), (.slice p3 g.strokes.length cap3), .int .i64 g.spread, .bool g.stamp, (.slice q3 (totals (ts.map Prod.fst) g).length c3), .int .i64 (⟨0, 0⟩ : Span).lo, .int .i64 (⟨0, 0⟩ : Span).hi], W, by kernel_rfl, World.Exts.refl _, fun e => (by cases e), fun _ => ⟨_, rfl, h1, h2⟩, fun e => (by cases e)⟩
        · simp only [List.getElem?_cons_succ, List.getElem?_cons_zero, Option.some.injEq] at hc
          subst hc
          exact .inr ⟨.pointer (some ⟨W.heap.size, 0, none⟩), W.alloc (.cells #[.slice none 0 0, .int .i64 0, .int .i64 0, .int .i64 0, .slice none 0 0, .slice none 0 0, .int .i64 0, .bool false, .slice none 0 0, .int .i64 0, .int .i64 0] 118), by kernel_rfl, exq, fun e => (by cases e), fun e => (by cases e), fun _ => ⟨_, rfl, hsz3, laysAs_size W _ rfl⟩⟩
      rotate_left 1
      case mono => exact fun c v W W' h hE => h.mono hE
      obtain ⟨vt, hν4, hvt, hvtT⟩ := (hΦ 4 (by decide) rfl).2.1 rfl
      obtain ⟨pm, hν5, hpm, hlm⟩ := (hΦ 5 (by decide) rfl).2.2 rfl
      have hwW : w.Exts W := World.Exts.trans exq hE
      simp only [List.drop_succ_cons, List.drop_zero]
      generalize ν 4 = v4 at hν4 ⊢
      generalize ν 5 = v5 at hν5 ⊢
      subst hν4 hν5
      obtain ⟨qt, ct, et⟩ := hvt.len
      subst et
      have hEV : w.Exts (putMeas W pm g (.slice p1 g.loads.length cap1) (.slice p2 g.runners.length cap2) (.slice p3 g.strokes.length cap3) (.slice qt (totals (ts.map Prod.fst) g).length ct)) := by
        unfold putMeas
        iterate 11 refine World.Exts.setCell ?_ (by dsimp only; omega) _
        exact hwW
      have hrV := rowOff_putMeas (RowT.off1 hvt hvtT hlm (by decide)) g (.slice p1 g.loads.length cap1) (.slice p2 g.runners.length cap2) (.slice p3 g.strokes.length cap3) (.slice qt (totals (ts.map Prod.fst) g).length ct)
      have hlV := putMeas_lays g (.slice p1 g.loads.length cap1) (.slice p2 g.runners.length cap2) (.slice p3 g.strokes.length cap3) (.slice qt (totals (ts.map Prod.fst) g).length ct) hlm
      obtain ⟨V, hV⟩ : ∃ V, putMeas W pm g (.slice p1 g.loads.length cap1) (.slice p2 g.runners.length cap2) (.slice p3 g.strokes.length cap3) (.slice qt (totals (ts.map Prod.fst) g).length ct) = V := ⟨_, rfl⟩
      have m0 := LaysAs.cell hlm 0 _ rfl
      have m1 := LaysAs.cell hlm 1 _ rfl
      have m2 := LaysAs.cell hlm 2 _ rfl
      have m3 := LaysAs.cell hlm 3 _ rfl
      have m4 := LaysAs.cell hlm 4 _ rfl
      have m5 := LaysAs.cell hlm 5 _ rfl
      have m6 := LaysAs.cell hlm 6 _ rfl
      have m7 := LaysAs.cell hlm 7 _ rfl
      have m8 := LaysAs.cell hlm 8 _ rfl
      have m9 := LaysAs.cell hlm 9 _ rfl
      have m10 := LaysAs.cell hlm 10 _ rfl
      have z0 : W.frozen? ⟨pm, 0, none⟩ = false := laysAs_frozen hlm
      have z1 : W.frozen? ⟨pm, 1, none⟩ = false := laysAs_frozen hlm
      have z2 : W.frozen? ⟨pm, 2, none⟩ = false := laysAs_frozen hlm
      have z3 : W.frozen? ⟨pm, 3, none⟩ = false := laysAs_frozen hlm
      have z4 : W.frozen? ⟨pm, 4, none⟩ = false := laysAs_frozen hlm
      have z5 : W.frozen? ⟨pm, 5, none⟩ = false := laysAs_frozen hlm
      have z6 : W.frozen? ⟨pm, 6, none⟩ = false := laysAs_frozen hlm
      have z7 : W.frozen? ⟨pm, 7, none⟩ = false := laysAs_frozen hlm
      have z8 : W.frozen? ⟨pm, 8, none⟩ = false := laysAs_frozen hlm
      have z9 : W.frozen? ⟨pm, 9, none⟩ = false := laysAs_frozen hlm
      have z10 : W.frozen? ⟨pm, 10, none⟩ = false := laysAs_frozen hlm
      have lm0 := Lays.of_cell m0
      haveI : Differ pm w.heap.size := ⟨by omega⟩
      haveI : Differ pm (w.heap.size + 1) := ⟨by omega⟩
      haveI : Differ pm (w.heap.size + 1 + 1) := ⟨by omega⟩
      have b0W : W.cell? ⟨w.heap.size, 0, none⟩ = some (.slice p ts.length cap) := by obtain ⟨XX, rfl⟩ := hE; simp [go_sem]
      have b10W : W.cell? ⟨w.heap.size + 1, 0, none⟩ = some (.slice p1 g.loads.length cap1) := by obtain ⟨XX, rfl⟩ := hE; simp [go_sem]
      have b11W : W.cell? ⟨w.heap.size + 1, 1, none⟩ = some (.int .i64 g.added) := by obtain ⟨XX, rfl⟩ := hE; simp [go_sem]
      have b12W : W.cell? ⟨w.heap.size + 1, 2, none⟩ = some (.int .i64 g.base) := by obtain ⟨XX, rfl⟩ := hE; simp [go_sem]
      have b13W : W.cell? ⟨w.heap.size + 1, 3, none⟩ = some (.int .i64 g.jitter) := by obtain ⟨XX, rfl⟩ := hE; simp [go_sem]
      have b14W : W.cell? ⟨w.heap.size + 1, 4, none⟩ = some (.slice p2 g.runners.length cap2) := by obtain ⟨XX, rfl⟩ := hE; simp [go_sem]
      have b15W : W.cell? ⟨w.heap.size + 1, 5, none⟩ = some (.slice p3 g.strokes.length cap3) := by obtain ⟨XX, rfl⟩ := hE; simp [go_sem]
      have b16W : W.cell? ⟨w.heap.size + 1, 6, none⟩ = some (.int .i64 g.spread) := by obtain ⟨XX, rfl⟩ := hE; simp [go_sem]
      have b17W : W.cell? ⟨w.heap.size + 1, 7, none⟩ = some (.bool g.stamp) := by obtain ⟨XX, rfl⟩ := hE; simp [go_sem]
      have b20W : W.cell? ⟨w.heap.size + 1 + 1, 0, none⟩ = some (.int .i64 n.total.lo) := by obtain ⟨XX, rfl⟩ := hE; simp [go_sem]
      have b21W : W.cell? ⟨w.heap.size + 1 + 1, 1, none⟩ = some (.int .i64 n.total.hi) := by obtain ⟨XX, rfl⟩ := hE; simp [go_sem]
      have b22W : W.cell? ⟨w.heap.size + 1 + 1, 2, none⟩ = some (.int .i64 n.added) := by obtain ⟨XX, rfl⟩ := hE; simp [go_sem]
      have b23W : W.cell? ⟨w.heap.size + 1 + 1, 3, none⟩ = some (.int .i64 n.warm) := by obtain ⟨XX, rfl⟩ := hE; simp [go_sem]
      have b24W : W.cell? ⟨w.heap.size + 1 + 1, 4, none⟩ = some (.int .i64 n.hard.lo) := by obtain ⟨XX, rfl⟩ := hE; simp [go_sem]
      have b25W : W.cell? ⟨w.heap.size + 1 + 1, 5, none⟩ = some (.int .i64 n.hard.hi) := by obtain ⟨XX, rfl⟩ := hE; simp [go_sem]
      have b26W : W.cell? ⟨w.heap.size + 1 + 1, 6, none⟩ = some (.bool n.stamp) := by obtain ⟨XX, rfl⟩ := hE; simp [go_sem]
      have b0 : V.cell? ⟨w.heap.size, 0, none⟩ = some (.slice p ts.length cap) := by rw [← hV]; simp [putMeas, go_sem, b0W]
      have b10 : V.cell? ⟨w.heap.size + 1, 0, none⟩ = some (.slice p1 g.loads.length cap1) := by rw [← hV]; simp [putMeas, go_sem, b10W]
      have b11 : V.cell? ⟨w.heap.size + 1, 1, none⟩ = some (.int .i64 g.added) := by rw [← hV]; simp [putMeas, go_sem, b11W]
      have b12 : V.cell? ⟨w.heap.size + 1, 2, none⟩ = some (.int .i64 g.base) := by rw [← hV]; simp [putMeas, go_sem, b12W]
      have b13 : V.cell? ⟨w.heap.size + 1, 3, none⟩ = some (.int .i64 g.jitter) := by rw [← hV]; simp [putMeas, go_sem, b13W]
      have b14 : V.cell? ⟨w.heap.size + 1, 4, none⟩ = some (.slice p2 g.runners.length cap2) := by rw [← hV]; simp [putMeas, go_sem, b14W]
      have b15 : V.cell? ⟨w.heap.size + 1, 5, none⟩ = some (.slice p3 g.strokes.length cap3) := by rw [← hV]; simp [putMeas, go_sem, b15W]
      have b16 : V.cell? ⟨w.heap.size + 1, 6, none⟩ = some (.int .i64 g.spread) := by rw [← hV]; simp [putMeas, go_sem, b16W]
      have b17 : V.cell? ⟨w.heap.size + 1, 7, none⟩ = some (.bool g.stamp) := by rw [← hV]; simp [putMeas, go_sem, b17W]
      have b20 : V.cell? ⟨w.heap.size + 1 + 1, 0, none⟩ = some (.int .i64 n.total.lo) := by rw [← hV]; simp [putMeas, go_sem, b20W]
      have b21 : V.cell? ⟨w.heap.size + 1 + 1, 1, none⟩ = some (.int .i64 n.total.hi) := by rw [← hV]; simp [putMeas, go_sem, b21W]
      have b22 : V.cell? ⟨w.heap.size + 1 + 1, 2, none⟩ = some (.int .i64 n.added) := by rw [← hV]; simp [putMeas, go_sem, b22W]
      have b23 : V.cell? ⟨w.heap.size + 1 + 1, 3, none⟩ = some (.int .i64 n.warm) := by rw [← hV]; simp [putMeas, go_sem, b23W]
      have b24 : V.cell? ⟨w.heap.size + 1 + 1, 4, none⟩ = some (.int .i64 n.hard.lo) := by rw [← hV]; simp [putMeas, go_sem, b24W]
      have b25 : V.cell? ⟨w.heap.size + 1 + 1, 5, none⟩ = some (.int .i64 n.hard.hi) := by rw [← hV]; simp [putMeas, go_sem, b25W]
      have b26 : V.cell? ⟨w.heap.size + 1 + 1, 6, none⟩ = some (.bool n.stamp) := by rw [← hV]; simp [putMeas, go_sem, b26W]
      rw [hV] at hEV hrV hlV
      have HRV := Lib.hid hrV
      clear hrV
      have HLV := Lib.hid hlV
      clear hlV
      have n0 := Lays.of_cell b0
      have n1 := Lays.of_cell b10
      have n2 := Lays.of_cell b20
      clear hvt hvtT hΦ
      have hD := HD.out
      rw [hD] at hV HRV HLV ⊢
      simp only [List.length_cons] at hV HLV ⊢
      clear hD
      go_wp2_with fail
      change Calls Tryz.prog 43 _ (putMeas W pm g (.slice p1 g.loads.length cap1) (.slice p2 g.runners.length cap2) (.slice p3 g.strokes.length cap3) (.slice qt (sr.length + 1) ct)) _
      rw [hV]
      have q0 := LaysAs.cell HLV.out 0 _ rfl
      have q1 := LaysAs.cell HLV.out 1 _ rfl
      have q2 := LaysAs.cell HLV.out 2 _ rfl
      have q3 := LaysAs.cell HLV.out 3 _ rfl
      have q4 := LaysAs.cell HLV.out 4 _ rfl
      have q5 := LaysAs.cell HLV.out 5 _ rfl
      have q6 := LaysAs.cell HLV.out 6 _ rfl
      have q7 := LaysAs.cell HLV.out 7 _ rfl
      have q8 := LaysAs.cell HLV.out 8 _ rfl
      have q9 := LaysAs.cell HLV.out 9 _ rfl
      have q10 := LaysAs.cell HLV.out 10 _ rfl
      have y9 : V.frozen? ⟨pm, 9, none⟩ = false := laysAs_frozen HLV.out
      have y10 : V.frozen? ⟨pm, 10, none⟩ = false := laysAs_frozen HLV.out
      have lq0 := Lays.of_cell q0
      clear m0 z0 m1 z1 m2 z2 m3 z3 m4 z4 m5 z5 m6 z6 m7 z7 m8 z8 m9 z9 m10 z10 b0W b10W b11W b12W b13W b14W b15W b16W b17W b20W b21W b22W b23W b24W b25W b26W lm0 hV hwW hE hlm
      clear W
      go_wp2_with (go_at_call 43; refine (scale_Hard_any g _ _ _ _ (HG.out.mono (exf hEV))).mono ?_; rw [HHD.out]; rintro e w' ⟨rfl, X5, rfl⟩)
      refine bodyPost_ret (v := .tuple #[.slice none 0 0, .int .u8 0, .int .i64 8]) (by simp [results, Tryz.results17, go_sem]) rfl ?_
      exact ⟨_, rfl, IsRow.nil _, (exf hEV)⟩
  · rw [judge_err hz]
    have hc := check_three (ts.map Prod.fst) g
    rcases hc with hc | hc | hc
    · exact absurd hc hz
    · rw [hc] at he ⊢
      have HE := Lib.hid he
      clear he
      clear hc hz
      go_enter Tryz.func17, Tryz.ntmps17
      go_wp2_with (go_at_call 40; refine (scale_asked_any ts _ [(g, _, _, _)] _ _ (HB.out.mono exq) (row_gear1 _ (g, _, _, _) _ (by simp)) (fun y hy => by rw [List.mem_singleton.1 hy]; exact HG.out.mono exq)).mono ?_; rintro e w' ⟨pp, rfl, -, X2, rfl⟩; rw [HE.out])
      refine bodyPost_ret (v := .tuple #[.slice none 0 0, .int .u8 0, .int .i64 41]) (by simp [results, Tryz.results17, go_sem]) rfl ?_
      exact ⟨_, rfl, IsRow.nil _, exq⟩
    · rw [hc] at he ⊢
      have HE := Lib.hid he
      clear he
      clear hc hz
      go_enter Tryz.func17, Tryz.ntmps17
      go_wp2_with (go_at_call 40; refine (scale_asked_any ts _ [(g, _, _, _)] _ _ (HB.out.mono exq) (row_gear1 _ (g, _, _, _) _ (by simp)) (fun y hy => by rw [List.mem_singleton.1 hy]; exact HG.out.mono exq)).mono ?_; rintro e w' ⟨pp, rfl, -, X2, rfl⟩; rw [HE.out])
      refine bodyPost_ret (v := .tuple #[.slice none 0 0, .int .u8 0, .int .i64 40]) (by simp [results, Tryz.results17, go_sem]) rfl ?_
      exact ⟨_, rfl, IsRow.nil _, exq⟩
end Go.Proofs.YtcickafaomfbmaaGreatDoor
