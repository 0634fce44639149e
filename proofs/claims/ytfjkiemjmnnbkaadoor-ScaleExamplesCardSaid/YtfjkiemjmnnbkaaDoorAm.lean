/-
  Several texts in one: see the heads of its parts.
-/
import Derived.Test.YtfjkiemjmnnbkaaDoorAl
import Derived.Test.YtfjkiemjmnnbkaaDoorJk
import Derived.Test.YtfjkiemjmnnbkaaDoorTw
import Derived.Test.YtfjkiemjmnnbkaaDoorScH
import Derived.Test.YtfjkiemjmnnbkaaDoorScG
import Derived.Test.YtfjkiemjmnnbkaaDoorTj
import Derived.Test.YtfjkiemjmnnbkaaDoorRf
import Derived.Test.YtfjkiemjmnnbkaaDoorBt

/-
  What 'alive' calls: one of the examples, tuned, or judged.
-/
namespace Go.Proofs.YtfjkiemjmnnbkaaDoor
open Go.RowKit Kr
set_option linter.unusedSimpArgs false

theorem pairs_of_parts {w : World} {v : Value} {l : List Part} (h : IsRow (fun q : Part => [.int .i64 q.gain, .int .i64 q.off]) 2 w v l) : IsRow (fun t : Int × Int => [.int .i64 t.1, .int .i64 t.2]) 2 w v (l.map fun q => (q.gain, q.off)) := by
  obtain ⟨p, b, o, cap, rfl, hm, hp, hc⟩ := h.ex
  refine ⟨p, b, o, cap, by rw [List.length_map], by rw [List.length_map]; exact hm, fun h0 => hp (by rw [List.length_map] at h0; exact h0), fun i x hx j u hu => ?_⟩
  rw [List.getElem?_map] at hx
  cases hq : l[i]? with
  | none => rw [hq] at hx; cases hx
  | some q => rw [hq] at hx; cases hx; exact hc i q hq j u hu
theorem ints_of_nats {w : World} {v : Value} {l : List Nat} (h : IsRow (fun x : Nat => [.int .i64 (x : Int)]) 1 w v l) : IsRow (fun x : Int => [.int .i64 x]) 1 w v (l.map fun x : Nat => (x : Int)) := by
  obtain ⟨p, b, o, cap, rfl, hm, hp, hc⟩ := h.ex
  refine ⟨p, b, o, cap, by rw [List.length_map], by rw [List.length_map]; exact hm, fun h0 => hp (by rw [List.length_map] at h0; exact h0), fun i x hx j u hu => ?_⟩
  rw [List.getElem?_map] at hx
  cases hq : l[i]? with
  | none => rw [hq] at hx; cases hx
  | some q => rw [hq] at hx; cases hx; exact hc i q hq j u hu
theorem scale_Totals_is (b : List Kr.Scale) (v : Value) (g : Gear) (lv rv sv : Value) (w : World) (hb : BayIs w v b) (hg : GearAt w (g, lv, rv, sv)) :
    Calls Tryd.prog 11 #[.agg #[v], .agg #[lv, .int .i64 g.added, .int .i64 g.base, .int .i64 g.jitter, rv, sv, .int .i64 g.spread, .bool g.stamp]] w fun e w' => ∃ v', e = .returned (.tuple #[v', .int .i64 (totalsR b g).2]) ∧ IsRow (fun t : Kr.Span => [.int .i64 t.lo, .int .i64 t.hi]) 2 w' v' (totalsR b g).1 ∧ w.Exts w' := by
  obtain ⟨ts, h1, rfl⟩ := hb
  exact scale_Totals_any ts v g lv rv sv w h1 hg
theorem scale_Truth_is (b : List Kr.Scale) (v : Value) (g : Gear) (lv rv sv : Value) (total : Int) (w : World) (hb : BayIs w v b) (hg : GearAt w (g, lv, rv, sv)) :
    Calls Tryd.prog 16 #[.agg #[v], .agg #[lv, .int .i64 g.added, .int .i64 g.base, .int .i64 g.jitter, rv, sv, .int .i64 g.spread, .bool g.stamp], .int .i64 total] w fun e w' => ∃ v1 v2, e = .returned (.tuple #[.agg #[v1, v2], .int .i64 (truthR b g total).2]) ∧ IsRow (fun t : Int × Int => [.int .i64 t.1, .int .i64 t.2]) 2 w' v1 ((truthR b g total).1.1.map fun q => (q.gain, q.off)) ∧ IsRow (fun x : Int => [.int .i64 x]) 1 w' v2 (truthR b g total).1.2 ∧ w.Exts w' := by
  obtain ⟨ts, h1, rfl⟩ := hb
  refine (scale_Truth_any ts v g lv rv sv total w h1 hg).mono ?_
  rintro e w' ⟨v1, v2, t1, t2, er, rfl, htr, h2, h3, h4⟩
  rw [htr]
  exact ⟨v1, v2, rfl, pairs_of_parts h2, h3, h4⟩
theorem scale_Judge_is (b : List Kr.Scale) (v : Value) (g : Gear) (lv rv sv : Value) (n : Norm) (w : World) (hb : BayIs w v b) (hg : GearAt w (g, lv, rv, sv)) (hcd : CondsAt w) :
    Calls Tryd.prog 12 #[.agg #[v], .agg #[lv, .int .i64 g.added, .int .i64 g.base, .int .i64 g.jitter, rv, sv, .int .i64 g.spread, .bool g.stamp], .agg #[.int .i64 n.total.lo, .int .i64 n.total.hi, .int .i64 n.added, .int .i64 n.warm, .int .i64 n.hard.lo, .int .i64 n.hard.hi, .bool n.stamp]] w fun e w' => ∃ vp, e = .returned (.tuple #[vp, .int .u8 (judgeR b g n).1.2, .int .i64 (judgeR b g n).2]) ∧ IsRow (fun x : Int => [.int .u8 x]) 1 w' vp (judgeR b g n).1.1 ∧ w.Exts w' := by
  obtain ⟨ts, h1, rfl⟩ := hb
  exact scale_Judge_any ts v g lv rv sv n w h1 hg hcd
theorem scale_Again_is (b : List Kr.Scale) (v : Value) (g : Gear) (lv rv sv : Value) (g2 : Gear) (lv2 rv2 sv2 : Value) (n : Norm) (w : World) (hb : BayIs w v b) (hg : GearAt w (g, lv, rv, sv)) (hg2 : GearAt w (g2, lv2, rv2, sv2)) :
    Calls Tryd.prog 19 #[.agg #[v], .agg #[lv, .int .i64 g.added, .int .i64 g.base, .int .i64 g.jitter, rv, sv, .int .i64 g.spread, .bool g.stamp], .agg #[lv2, .int .i64 g2.added, .int .i64 g2.base, .int .i64 g2.jitter, rv2, sv2, .int .i64 g2.spread, .bool g2.stamp], .agg #[.int .i64 n.total.lo, .int .i64 n.total.hi, .int .i64 n.added, .int .i64 n.warm, .int .i64 n.hard.lo, .int .i64 n.hard.hi, .bool n.stamp]] w fun e w' => e = .returned (.tuple #[.int .u8 (againR b g g2 n).1, .int .i64 (againR b g g2 n).2]) ∧ w.Exts w' := by
  obtain ⟨ts, h1, rfl⟩ := hb
  exact scale_Again_any ts v g lv rv sv g2 lv2 rv2 sv2 n w h1 hg hg2
theorem scale_Ballast_is (b : List Kr.Scale) (v : Value) (g : Gear) (lv rv sv : Value) (n : Norm) (pieces : List Int) (pv : Value) (w : World) (hb : BayIs w v b) (hg : GearAt w (g, lv, rv, sv)) (hp : IsRow (fun x : Int => [.int .i64 x]) 1 w pv pieces) :
    Calls Tryd.prog 17 #[.agg #[v], .agg #[lv, .int .i64 g.added, .int .i64 g.base, .int .i64 g.jitter, rv, sv, .int .i64 g.spread, .bool g.stamp], .agg #[.int .i64 n.total.lo, .int .i64 n.total.hi, .int .i64 n.added, .int .i64 n.warm, .int .i64 n.hard.lo, .int .i64 n.hard.hi, .bool n.stamp], pv] w fun e w' => ∃ vp, e = .returned (.tuple #[vp, .int .i64 (ballastR b g n pieces).2]) ∧ IsRow (fun x : Int => [.int .i64 x]) 1 w' vp ((ballastR b g n pieces).1.map fun x : Nat => (x : Int)) ∧ w.Exts w' := by
  obtain ⟨ts, h1, rfl⟩ := hb
  refine (scale_Ballast_any ts v g lv rv sv n pieces pv w h1 hg hp).mono ?_
  rintro e w' ⟨vp, rfl, h2, h3⟩
  exact ⟨vp, rfl, ints_of_nats h2, h3⟩

theorem field_bay (p : Option Addr) (m c : Nat) (W : World) : (Sem.run Tryd.prog (Instr.field 37 (.agg #[.slice p m c]) 0)) W = .ok (.slice p m c) W := by kernel_rfl
attribute [local go_sem] field_bay

set_option maxRecDepth 4000 in
set_option maxHeartbeats 1000000 in
theorem l04_tuned_any (k : Nat) (s : Kr.Scale) (want : List Tune) (hk : exBay[k]? = some s) (h1 : right s = true) (h2 : tunes s = want) (h3 : want ≠ []) (wv : Value) (w : World) (hw : IsRow (fun t : Kr.Tune => [.int .i64 t.gain, .int .i64 t.off.lo, .int .i64 t.off.hi]) 3 w wv want) :
    Calls Tryd.prog 5 #[.int .i64 k, wv] w fun e w' => e = .returned (.bool true) ∧ w.Exts w' := by
  have hk2 : k < 2 := (List.getElem?_eq_some_iff.1 hk).1
  obtain ⟨qw, cw, rfl⟩ := hw.len
  have htu : ∀ (tv : Value) (W : World), IsRow (fun t : Kr.Trial => [.int .i64 t.weight, .int .i64 t.shown]) 2 W tv s.trials → Calls Tryd.prog 15 #[.agg #[.int .i64 s.id, .int .i64 s.step, .int .i64 s.gain.lo, .int .i64 s.gain.hi, .int .i64 s.off.lo, .int .i64 s.off.hi, tv]] W fun e w' => ∃ v, e = .returned (.tuple #[v, .int .i64 0]) ∧ IsRow (fun t : Kr.Tune => [.int .i64 t.gain, .int .i64 t.off.lo, .int .i64 t.off.hi]) 3 w' v want ∧ W.Exts w' := by
    intro tv W hW
    have h := scale_Tunes_any s tv W hW
    rw [if_pos h1, if_pos h1, h2, if_neg h3] at h
    exact h
  have HW := Lib.hid hw
  clear hw
  have HK := Lib.hid hk
  clear hk
  have HTU := Lib.hid htu
  clear htu
  clear h1 h2 h3
  go_enter Tryd.func5, Tryd.ntmps5
  go_wp2_with (first
    | (go_at_call 8; refine (l04_bay_any _).mono ?_; rintro e w' ⟨v, rfl, ⟨ts, hb, he⟩, X, rfl⟩; obtain ⟨q, b, o, cap, rfl, hm, hq, hc⟩ := hb.row.ex; have hlen : ts.length = 2 := (by rw [← List.length_map (f := Prod.fst), he]; rfl); rw [hlen]; obtain ⟨rfl, hlay⟩ := hq (by omega); obtain ⟨x, hx⟩ : ∃ x, ts[k]? = some x := some_of_lt (by omega); have hcs := hc k x hx; have c0 := hcs 0 _ rfl; have c1 := hcs 1 _ rfl; have c2 := hcs 2 _ rfl; have c3 := hcs 3 _ rfl; have c4 := hcs 4 _ rfl; have c5 := hcs 5 _ rfl; have c6 := hcs 6 _ rfl; simp only [Nat.add_zero] at c0 c1 c2 c3 c4 c5 c6; have hxs : x.1 = s := (by have h9 := HK.out; rw [← he, List.getElem?_map, hx] at h9; simpa using h9); have htr := hb.tr x (List.mem_of_getElem? hx); rw [hxs] at htr c0 c1 c2 c3 c4 c5; have HTR := Lib.hid htr; clear htr hb he hm hq hc hlen hx hcs hxs)
    | (go_at_call 15; refine (HTU.out _ _ (HTR.out.mono exq)).mono ?_; rintro e w' ⟨v, rfl, hv, X2, rfl⟩; obtain ⟨qv, cv, rfl⟩ := hv.len; have HV := Lib.hid hv; clear hv)
    | (go_at_call 23; refine (r04_SameTunes_any want _ _ _ (HV.out.mono exq) (HW.out.mono exq)).mono ?_; rintro e w' ⟨rfl, X3, rfl⟩))
  go_ret
  exact ⟨rfl, exq⟩

set_option maxRecDepth 4000 in
set_option maxHeartbeats 1000000 in
theorem l04_judged_any (hi warm : Int) (wh : Int) (ps : List Int) (wv : Value) (w : World) (hj : judgeR exBay exGear (exNorm hi warm) = ((ps, wh), 0)) (hw : IsRow (fun x : Int => [.int .u8 x]) 1 w wv ps) (hcd : CondsAt w) :
    Calls Tryd.prog 6 #[.int .i64 hi, .int .i64 warm, .int .u8 wh, wv] w fun e w' => e = .returned (.bool true) ∧ w.Exts w' := by
  obtain ⟨qw, cw, rfl⟩ := hw.len
  have HW := Lib.hid hw
  clear hw
  have HJ := Lib.hid hj
  clear hj
  have HCD := Lib.hid hcd
  clear hcd
  go_enter Tryd.func6, Tryd.ntmps6
  go_wp2_with (first
    | (go_at_call 8; refine (l04_bay_any _).mono ?_; rintro e w' ⟨v, rfl, hb, X, rfl⟩; have HB := Lib.hid hb; clear hb)
    | (go_at_call 10; refine (l04_gear_any _).mono ?_; rintro e w' ⟨l, r, s, rfl, hg, X, rfl⟩; have HG := Lib.hid hg; clear hg)
    | (go_at_call 13; refine (l04_norm_any _ _ _).mono ?_; rintro e w' ⟨rfl, X, rfl⟩)
    | (go_at_call 12; refine (scale_Judge_is exBay _ exGear _ _ _ (exNorm hi warm) _ (HB.out.mono exq) (HG.out.mono exq) (HCD.out.mono exq)).mono ?_; rw [HJ.out]; rintro e w' ⟨v, rfl, hv, X2, rfl⟩; obtain ⟨qv, cv, rfl⟩ := hv.len; have HV := Lib.hid hv; clear hv)
    | (go_at_call 24; refine (r04_SameBytes_any ps _ _ _ (HV.out.mono exq) (HW.out.mono exq)).mono ?_; rintro e w' ⟨rfl, X3, rfl⟩))
  go_ret
  exact ⟨rfl, exq⟩

end Go.Proofs.YtfjkiemjmnnbkaaDoor

/-
  A region that draws its order and holds calls, of some of which the result is known, so that guards may ask for it: the law of XCalls, with results that are known.
-/
namespace Go
open Go.RowKit

/-- What is known of results. -/
def Knows (kv : Nat → Option Value) (ν : Nat → Value) : Prop := ∀ c u, kv c = some u → ν c = u
theorem Knows.upd {kv : Nat → Option Value} {ν : Nat → Value} (h : Knows kv ν) {i : Nat} {v : Value} (hv : ∀ u, kv i = some u → v = u) : Knows kv (updU ν i v) := by
  intro c u hc
  unfold updU
  by_cases hci : c = i
  · subst hci; rw [if_pos rfl]; exact hv u hc
  · rw [if_neg hci]; exact h c u hc

/-- The temporaries that such an operation reads: a part of a call's result, too. -/
def Oper.opTmpsK (o : Oper) : Option (List Nat) :=
  match o.op with
  | .extract x _ => some x.tmpOf
  | .move x => some x.tmpOf
  | _ => o.opTmps
theorem gives_congrK {P : Program} {a b : Act} {o : Oper} {ts : List Nat} {W : World} {R : Value → World → Prop} (ho : o.opTmpsK = some ts) (h : ∀ d ∈ ts, a.tmps[d]? = b.tmps[d]?) (hg : o.gives P b.eval W R) : o.gives P a.eval W R := by
  unfold Oper.opTmpsK at ho
  split at ho
  · rename_i x i hop
    cases ho
    have e1 : a.eval x = b.eval x := eval_tmp_eq h
    have e : execOp a.eval o = execOp b.eval o := by unfold execOp; simp only [hop, e1]
    unfold Oper.gives at hg ⊢
    rw [e]; exact hg
  · rename_i x hop
    cases ho
    have e1 : a.eval x = b.eval x := eval_tmp_eq h
    have e : execOp a.eval o = execOp b.eval o := by unfold execOp; simp only [hop, e1]
    unfold Oper.gives at hg ⊢
    rw [e]; exact hg
  · exact gives_congr ho h hg
def Region.fedK (md : Region.Mode) (l : List Oper) (U : Nat → Bool) : Bool := (List.range l.length).all fun i => !U i || match l[i]? with
  | some o => match o.opTmpsK with
    | some ts => (ts.all fun d => (List.range l.length).all fun j => decide ((l[j]?).bind (·.dst) ≠ some d) || o.after.any fun e => Region.binds md e && e.on == j)
    | none => false
  | none => true
/-- Each operation waits for earlier ones alone. -/
def Region.backK (md : Region.Mode) (l : List Oper) : Bool := (List.range l.length).all fun i => match l[i]? with | some o => o.after.all fun e => !Region.binds md e || decide (e.on < i) | none => true
theorem backK_spec {md : Region.Mode} {l : List Oper} (h : Region.backK md l = true) {i : Nat} {o : Oper} (hi : l[i]? = some o) : ∀ e ∈ o.after, Region.binds md e = true → e.on < i := by
  have h1 := List.all_eq_true.1 h i (List.mem_range.2 (List.getElem?_eq_some_iff.1 hi).1)
  simp only [hi] at h1
  intro e he hb
  have := Array.all_eq_true'.1 h1 e he
  simpa [hb] using this
theorem lapp_cons {α : Type} (a : α) (l m : List α) : List.append (a :: l) m = a :: List.append l m := rfl
theorem lapp_nil {α : Type} (m : List α) : List.append [] m = m := rfl

section
variable {P : Program} {md : Region.Mode} {l : List Oper} {n : Nat} {U : Nat → Bool} {w : World} {Q : Exit → Act → World → Prop} {g : Nat} {A : (Nat → Value) → Act} {Φ : Nat → Value → World → Prop} {kv : Nat → Option Value}

theorem HeadK.any (hkv : ∀ c v W u, Φ c v W → kv c = some u → v = u) (hD : Region.dstsB l = true) (hback : Region.backK md l = true) (hfed : Region.fedK md l U = true) (hgu : ∀ ν, Knows kv ν → ∀ i oi, l[i]? = some oi → U i = true → Region.wanted oi (yielded l.toArray (A ν).tmps) = true ∧ ∀ gi pol, oi.guard = some (gi, pol) → ∃ e ∈ oi.after, Region.binds md e = true ∧ e.on = gi) (hp : ∀ i o, l[i]? = some o → i < n → U i = false → o.plainB = true) (hg : g = l.length - n) (hn : n ≤ l.length)
    (hmono : ∀ c v W W', Φ c v W → W.Exts W' → Φ c v W')
    (hcall : ∀ c oc, l[c]? = some oc → U c = true → ∀ ν, Knows kv ν → ∀ W, w.Exts W → (∀ c', U c' = true → (∃ e ∈ oc.after, Region.binds md e = true ∧ e.on = c') → Φ c' (ν c') W) → oc.gives P (A ν).eval W fun v W' => W.Exts W' ∧ Φ c v W')
    (htail : ∀ ν, Knows kv ν → ∀ W, w.Exts W → (∀ c, c < n → U c = true → Φ c (ν c) W) → wpList P l.toArray Q (l.drop n) (A ν) W) :
    ∀ (f : Nat) (listed : Array Bool) (a : Act) (W : World) (ν : Nat → Value), Knows kv ν → listed.size = l.length → w.Exts W → (∀ c, c < l.length → U c = true → listed.getD c true = true → Φ c (ν c) W) →
      (∀ ν', Knows kv ν' → (∀ c, c < l.length → U c = true → listed.getD c true = true → ν' c = ν c) → HeadC P md l U n w A g ν' f listed a) → wpAny P md l.toArray Q (f + g) listed a W
  | 0, listed, a, W, ν, hkn, hsz, hE, hK, h => by
    obtain ⟨h1, rfl⟩ := h ν hkn (fun _ _ _ _ => rfl)
    rw [seqB_modU] at h1
    have hall : ∀ c, c < n → listed.getD c true = true := by
      intro c
      induction c using Nat.strongRecOn with
      | _ c ih =>
        intro hc
        cases hl : listed.getD c true with
        | true => rfl
        | false =>
          obtain ⟨o, ho⟩ : ∃ o, l[c]? = some o := ⟨_, List.getElem?_eq_getElem (by omega)⟩
          have := seqB_ready h1 c (mem_ready.2 ⟨hl, o, by simpa using ho, fun e he hb => by
            have hlt := backK_spec hback ho e he hb
            have := ih e.on hlt (by omega)
            rw [Array.getD_eq_getD_getElem?] at this ⊢
            rw [Array.getElem?_eq_getElem (by rw [hsz]; omega)] at this ⊢
            exact this⟩)
          omega
    have h2 := wpAny_of_seq (md := md) (Q' := Q) (l.drop n) n listed (A ν) W (fun j => by simp [List.getElem?_drop]) (by rw [List.length_drop, ← hg]; exact h1) (htail ν hkn W hE fun c hc hU => hK c (by omega) hU (hall c hc))
    rw [List.length_drop, ← hg] at h2
    rw [Nat.zero_add]; exact h2
  | f + 1, listed, a, W, ν, hkn, hsz, hE, hK, h => by
    rw [Nat.add_right_comm]
    have h0 := h ν hkn (fun _ _ _ _ => rfl)
    have hne := h0.1
    rw [ready_modU] at hne
    refine ⟨fun h0 => absurd h0 hne, fun i hi => ?_⟩
    obtain ⟨hun, oi, hoi, hwait⟩ := mem_ready.1 hi
    have hoi' : l[i]? = some oi := by simpa using hoi
    have hil : i < l.length := (List.getElem?_eq_some_iff.1 hoi').1
    have hin : i < listed.size := by rw [hsz]; exact hil
    have hW : ∃ X : Ext w, W = w.ext X := hE
    have hlt : i < n := (h0.2 i (by rw [ready_modU]; exact hi)).1
    cases hU : U i with
    | false =>
      have hset : ∀ ν', (modU l U ν').toArray[i]? = some oi := fun ν' => by rw [List.getElem?_toArray, modU_get, hoi', Option.map_some, hU]; rfl
      have each : ∀ ν', Knows kv ν' → (∀ c, c < l.length → U c = true → listed.getD c true = true → ν' c = ν c) → ∃ v, YieldsIn P (modU l U ν').toArray (fun W => ∃ X : Ext w, W = w.ext X) oi v a ∧ HeadC P md l U n w A g ν' f (listed.setIfInBounds i true) (a.put oi.dst v) := fun ν' hkn' hν' =>
        yieldsIn_of_qOp (hset ν') ((h ν' hkn' hν').2 i (by rw [ready_modU]; exact hi)).2
      have hpl := hp i oi hoi' hlt hU
      obtain ⟨v, hy, hv⟩ := each ν hkn (fun _ _ _ _ => rfl)
      refine wpOp_of_yields hoi (yielded_modU ν _) hpl hW hy ?_
      refine HeadK.any hkv hD hback hfed hgu hp hg hn hmono hcall htail f _ _ W ν hkn (by simpa using hsz) hE (fun c hc hUc hl => ?_) (fun ν' hkn' hν' => ?_)
      · by_cases hci : c = i
        · subst hci; rw [hU] at hUc; cases hUc
        · rw [getD_set_ne true (Ne.symm hci)] at hl; exact hK c hc hUc hl
      · have hag : ∀ c, c < l.length → U c = true → listed.getD c true = true → ν' c = ν c := fun c hc hUc hl => by
          by_cases hci : c = i
          · subst hci; rw [hU] at hUc; cases hUc
          · exact hν' c hc hUc (by rw [getD_set_ne true (Ne.symm hci)]; exact hl)
        obtain ⟨v', hy', hv'⟩ := each ν' hkn' hag
        have hvv : v = v' := by
          unfold YieldsIn at hy hy'
          rw [yielded_modU] at hy hy'
          rcases hy with ⟨hw1, hq1⟩ | ⟨hw1, e1⟩ <;> rcases hy' with ⟨hw2, hq2⟩ | ⟨hw2, e2⟩
          · exact quietUpon_same (fun _ _ _ => Oper.not_enter hpl) (hq1 W hW) (hq2 W hW)
          · rw [hw1] at hw2; cases hw2
          · rw [hw1] at hw2; cases hw2
          · rw [e1, e2]
        rw [hvv]; exact hv'
    | true =>
      have hset : ∀ ν', (modU l U ν').toArray[i]? = some (cOp oi (ν' i)) := fun ν' => by rw [List.getElem?_toArray, modU_get, hoi', Option.map_some, hU]; rfl
      have hfd := List.all_eq_true.1 hfed i (List.mem_range.2 hil)
      simp only [hU, hoi', Bool.not_true, Bool.false_or] at hfd
      split at hfd
      case h_2 => cases hfd
      rename_i ts hop
      simp only [List.all_eq_true, List.mem_range] at hfd
      obtain ⟨hwn, hgd⟩ := hgu ν hkn i oi hoi' hU
      have hwa : Region.wanted oi (yielded l.toArray a.tmps) = true := by
        cases hgc : oi.guard with
        | none => unfold Region.wanted; rw [hgc]
        | some gp =>
          obtain ⟨gi, pol⟩ := gp
          obtain ⟨e2, he2, hb2, hon2⟩ := hgd gi pol hgc
          have hgl : gi < l.length := by have := backK_spec hback hoi' e2 he2 hb2; omega
          have hlist := hwait e2 he2 hb2
          rw [hon2, Array.getD_eq_getD_getElem?, Array.getElem?_eq_getElem (by rw [hsz]; exact hgl)] at hlist
          have hsame : yielded l.toArray a.tmps gi = yielded l.toArray (A ν).tmps gi := by
            unfold yielded
            obtain ⟨og, hog⟩ : ∃ og, l[gi]? = some og := ⟨_, List.getElem?_eq_getElem hgl⟩
            rw [List.getElem?_toArray, hog, Option.bind_some]
            cases hdg : og.dst with
            | none => rfl
            | some d =>
              rw [Option.bind_some, Option.bind_some]
              have : a.tmps[d]? = (A ν).tmps[d]? := by
                refine HeadAny.val (A := A ν) (fun _ _ h => h.2) (f + 1) _ _ d (fun j oj hj hl e => ?_) h0
                rw [List.getElem?_toArray, modU_get] at hj
                cases hlj : l[j]? with
                | none => rw [hlj] at hj; cases hj
                | some o' =>
                  rw [hlj] at hj
                  simp only [Option.map_some, Option.some.injEq] at hj
                  have e' : o'.dst = some d := by
                    rw [← hj] at e
                    split at e
                    · exact e
                    · exact e
                  obtain rfl := dstsB_spec hD hog hlj hdg e'
                  rw [Array.getD_eq_getD_getElem?, Array.getElem?_eq_getElem (by rw [hsz]; exact hgl)] at hl
                  simp only [Option.getD_some] at hlist hl
                  rw [hl] at hlist
                  cases hlist
              rw [this]
          unfold Region.wanted at hwn ⊢
          rw [hgc] at hwn ⊢
          dsimp only at hwn ⊢
          rw [hsame]
          exact hwn
      have hgv := hcall i oi hoi' hU ν hkn W hE (fun c' hUc ⟨e, he, hb, hon⟩ => by
        have hlist := hwait e he hb
        rw [hon] at hlist
        have hc' : c' < l.length := by have := backK_spec hback hoi' e he hb; omega
        refine hK c' hc' hUc ?_
        rw [Array.getD_eq_getD_getElem?] at hlist ⊢
        rw [Array.getElem?_eq_getElem (by rw [hsz]; exact hc')] at hlist ⊢
        exact hlist)
      have hops : ∀ d ∈ ts, a.tmps[d]? = (A ν).tmps[d]? := fun d hd => by
        refine HeadAny.val (A := A ν) (fun _ _ h => h.2) (f + 1) _ _ d (fun j oj hj hl e => ?_) h0
        rw [List.getElem?_toArray, modU_get] at hj
        cases hlj : l[j]? with
        | none => rw [hlj] at hj; cases hj
        | some o' =>
          rw [hlj] at hj
          simp only [Option.map_some, Option.some.injEq] at hj
          have e' : o'.dst = some d := by
            rw [← hj] at e
            split at e
            · exact e
            · exact e
          have hjl : j < l.length := (List.getElem?_eq_some_iff.1 hlj).1
          have h3 := hfd d hd j hjl
          rw [hlj] at h3
          simp only [Option.bind_some, e', ne_eq, not_true_eq_false, decide_false, Bool.false_or, Array.any_eq_true'] at h3
          obtain ⟨e2, he2, h4⟩ := h3
          simp only [Bool.and_eq_true, beq_iff_eq] at h4
          have hlist := hwait e2 he2 h4.1
          rw [h4.2] at hlist
          rw [Array.getD_eq_getD_getElem?, Array.getElem?_eq_getElem (by rw [hsz]; exact hjl)] at hlist hl
          simp only [Option.getD_some] at hlist hl
          rw [hl] at hlist
          cases hlist
      have hgv2 := gives_congrK hop hops hgv
      have next : ∀ v W', W.Exts W' → Φ i v W' → wpAny P md l.toArray Q (f + g) (listed.setIfInBounds i true) (a.put oi.dst v) W' := by
        intro v W' hEW hΦ
        refine HeadK.any hkv hD hback hfed hgu hp hg hn hmono hcall htail f _ _ W' (updU ν i v) (hkn.upd fun u hc => hkv _ _ _ _ hΦ hc) (by simpa using hsz) (hE.trans hEW) (fun c' hc' hUc hl => ?_) (fun ν' hkn' hν' => ?_)
        · unfold updU
          by_cases hci : c' = i
          · rw [if_pos hci, hci]; exact hΦ
          · rw [if_neg hci]
            rw [getD_set_ne true (Ne.symm hci)] at hl
            exact hmono _ _ _ _ (hK c' hc' hUc hl) hEW
        · have hag : ∀ c, c < l.length → U c = true → listed.getD c true = true → ν' c = ν c := fun c hc hUc hl => by
            have hci : c ≠ i := fun e => by rw [e, hun] at hl; cases hl
            have h5 := hν' c hc hUc (by rw [getD_set_ne true (Ne.symm hci)]; exact hl)
            rw [h5]; unfold updU; rw [if_neg hci]
          have hvi : ν' i = v := by
            have h5 := hν' i hil hU (getD_set_same true hin)
            rw [h5]; unfold updU; rw [if_pos rfl]
          obtain ⟨u, hy, hu⟩ := yieldsIn_of_qOp (hset ν') ((h ν' hkn' hag).2 i (by rw [ready_modU]; exact hi)).2
          have huv : u = v := by
            unfold YieldsIn at hy
            rcases hy with ⟨_, hq⟩ | ⟨hw, _⟩
            · have h6 := hq W hW
              simp only [Oper.quietAt, cOp, execOp, Sem.run_pure, Oper.quietUpon] at h6
              rw [← h6.2]; exact hvi
            · rw [yielded_modU] at hw
              rw [show Region.wanted (cOp oi (ν' i)) (yielded l.toArray a.tmps) = Region.wanted oi (yielded l.toArray a.tmps) from rfl, hwa] at hw
              cases hw
          rw [huv] at hu
          exact hu
      unfold wpOp
      simp only [hoi]
      rw [if_pos hwa]
      refine .inl ?_
      unfold Oper.wp
      rcases hgv2 with ⟨fn, args, hrun, hc⟩ | ⟨v, W', hrun, hEW, hΦ⟩
      · rw [hrun, Oper.upon_enter]
        refine hc.mono ?_
        rintro e W' ⟨v, rfl, hEW, hΦ⟩
        exact next v W' hEW hΦ
      · rw [hrun, Oper.upon_value]
        exact next v W' hEW hΦ
end

theorem wpAny_callsK {P : Program} {l : List Oper} {w : World} {Q : Exit → Act → World → Prop} {a : Act} (n : Nat) (U : Nat → Bool) (A : (Nat → Value) → Act) (Φ : Nat → Value → World → Prop) (kv : Nat → Option Value) (hkv : ∀ c v W u, Φ c v W → kv c = some u → v = u)
    (hB : ∀ ν, Region.lexTailB .any (modU l U ν).toArray n = true) (hD : Region.dstsB l = true) (hback : Region.backK .any l = true) (hfed : Region.fedK .any l U = true) (hgu : ∀ ν, Knows kv ν → ∀ i oi, l[i]? = some oi → U i = true → Region.wanted oi (yielded l.toArray (A ν).tmps) = true ∧ ∀ gi pol, oi.guard = some (gi, pol) → ∃ e ∈ oi.after, Region.binds .any e = true ∧ e.on = gi) (hp : ∀ i o, l[i]? = some o → i < n → U i = false → o.plainB = true)
    (hmono : ∀ c v W W', Φ c v W → W.Exts W' → Φ c v W')
    (hwalk : ∀ ν, Knows kv ν → ∀ (L : Act → Prop), L (A ν) → wpQuiet P (modU l U ν).toArray (fun W => ∃ X : Ext w, W = w.ext X) L ((modU l U ν).take n) a)
    (hcall : ∀ c oc, l[c]? = some oc → U c = true → ∀ ν, Knows kv ν → ∀ W, w.Exts W → (∀ c', U c' = true → (∃ e ∈ oc.after, Region.binds .any e = true ∧ e.on = c') → Φ c' (ν c') W) → oc.gives P (A ν).eval W fun v W' => W.Exts W' ∧ Φ c v W')
    (htail : ∀ ν, Knows kv ν → ∀ W, w.Exts W → (∀ c, c < n → U c = true → Φ c (ν c) W) → wpList P l.toArray Q (l.drop n) (A ν) W) :
    wpAny P .any l.toArray Q l.toArray.size (Array.replicate l.toArray.size false) a { w with drawn := w.drawn + 1 } := by
  have hB0 := hB (fun _ => undef)
  simp only [Region.lexTailB, Bool.and_eq_true, decide_eq_true_eq] at hB0
  have hn' : n < l.length := by simpa [modU_len] using hB0.1.1.1.2
  have key := HeadK.any (md := .any) (P := P) (w := w) (A := A) (Q := Q) (g := l.length - n) (n := n) hkv hD hback hfed hgu hp rfl (by omega) hmono hcall htail n (Array.replicate l.toArray.size false) a { w with drawn := w.drawn + 1 } (fun c => (kv c).getD undef) (fun c u (hc : kv c = some u) => by dsimp only; rw [hc]; rfl) (by simp) ⟨⟨w.drew, (Below.refl _ _).drew⟩, rfl⟩
    (fun c hc _ hl => by rw [getD_replicate_lt (by simpa using hc)] at hl; cases hl) (fun ν hkn _ => ?_)
  · rw [show n + (l.length - n) = l.toArray.size by simp; omega] at key
    exact key
  · have hBp := hB ν
    simp only [Region.lexTailB, Bool.and_eq_true, decide_eq_true_eq] at hBp
    obtain ⟨⟨⟨⟨hsel, hn⟩, hs⟩, hc⟩, hlex⟩ := hBp
    have htl : ((modU l U ν).take n).length = n := by rw [List.length_take, modU_len]; omega
    have hgl : (modU l U ν).toArray.size - n = l.length - n := by simp [modU_len]
    have inv0 : HeadInv .any (modU l U ν).toArray n (Array.replicate l.toArray.size false) :=
      ⟨by simp [modU_len], fun j oj _ hl => (by rw [getD_replicate_false] at hl; cases hl), fun t _ ht => getD_in (by simpa [modU_len] using ht) (getD_replicate_false _ _)⟩
    have H := HeadAny.lex (md := .any) (g := l.length - n) hsel hs hc hn ((modU l U ν).take n) 0 _ a (fun j hj => by rw [htl] at hj; simp [hj]) (by simpa using htl) inv0 (by rw [htl]; rw [hgl] at hlex; simpa [modU_len] using hlex) (hwalk ν hkn (fun a' => a' = A ν) rfl)
    rw [htl] at H
    exact H

/-- The walk's list, laid out as it is walked: operations from place k on, n of them. -/
def modTo (U : Nat → Bool) (ν : Nat → Value) : Nat → Nat → List Oper → List Oper
  | _, 0, _ => []
  | _, _ + 1, [] => []
  | k, n + 1, o :: l => (if U k then cOp o (ν k) else o) :: modTo U ν (k + 1) n l
theorem modTo_eq (U : Nat → Bool) (ν : Nat → Value) : ∀ (n k : Nat) (l : List Oper), (l.mapIdx fun i o => if U (i + k) then cOp o (ν (i + k)) else o).take n = modTo U ν k n l
  | 0, _, _ => by simp [modTo]
  | _ + 1, _, [] => by simp [modTo]
  | n + 1, k, o :: l => by
    rw [List.mapIdx_cons, List.take_succ_cons, modTo, ← modTo_eq U ν n (k + 1) l, Nat.zero_add]
    congr 2
    refine congrArg (fun f => List.mapIdx f l) ?_
    funext i o
    rw [show i + 1 + k = i + (k + 1) by omega]
theorem wpQuiet_ops {P : Program} {ops ops' : Array Oper} {C : World → Prop} {Q : Act → Prop} (hy : ∀ tmps, yielded ops tmps = yielded ops' tmps) : ∀ (l : List Oper) (a : Act), wpQuiet P ops C Q l a → wpQuiet P ops' C Q l a
  | [], _, h => h
  | o :: l, a, h => by
    unfold wpQuiet at h ⊢
    rw [← hy]
    split at h
    · rename_i hw
      rw [if_pos hw]
      obtain ⟨v, h1, h2⟩ := h
      exact ⟨v, h1, wpQuiet_ops hy l _ h2⟩
    · rename_i hw
      rw [if_neg hw]
      exact wpQuiet_ops hy l _ h
section
variable {P : Program} {ops : Array Oper} {C : World → Prop} {Q : Act → Prop} {a : Act} {U : Nat → Bool} {ν : Nat → Value} {k n : Nat} {l : List Oper}
theorem modTo_free {o : Oper} (hU : U k = false) (h : wpQuiet P ops C Q (o :: modTo U ν (k + 1) n l) a) : wpQuiet P ops C Q (modTo U ν k (n + 1) (o :: l)) a := by
  unfold modTo; rw [hU]; exact h
theorem modTo_call {d : Option Nat} {p : Op} {ty : TypeId} {pos : String} {af : Array Edge} {gd : Option (Nat × Bool)} {v : Value} (hU : U k = true) (hv : ν k = v) (h : wpQuiet P ops C Q (⟨d, .move (.const v), ty, pos, af, gd⟩ :: modTo U ν (k + 1) n l) a) :
    wpQuiet P ops C Q (modTo U ν k (n + 1) (⟨d, p, ty, pos, af, gd⟩ :: l)) a := by
  subst hv; unfold modTo; rw [hU]; exact h
theorem modTo_end (h : Q a) : wpQuiet P ops C Q (modTo U ν k 0 l) a := h
end
theorem wp_region_callsK {P : Program} {id : Nat} {Q : Exit → Act → World → Prop} {a : Act} {w : World} {l : List Oper} (n : Nat) (U : Nat → Bool) (Φ : Nat → Value → World → Prop) (kv : Nat → Option Value) (hm : P.follows .mixedOrders = true)
    (hB : ∀ ν, Region.lexTailB .any (modU l U ν).toArray n = true) (hD : Region.dstsB l = true) (hback : Region.backK .any l = true) (hfed : Region.fedK .any l U = true) (hgf : Region.guardFedB .any l U = true) (hp : ((List.range n).all fun i => U i || match l[i]? with | some o => o.plainB | none => true) = true)
    (hmono : ∀ c v W W', Φ c v W → W.Exts W' → Φ c v W') (hkv : ∀ c v W u, Φ c v W → kv c = some u → v = u)
    (h : ∃ A : (Nat → Value) → Act, (∀ ν, Knows kv ν → ∀ i oi, l[i]? = some oi → U i = true → Region.wanted oi (yielded l.toArray (A ν).tmps) = true) ∧ (∀ ν, Knows kv ν → ∀ (L : Act → Prop), L (A ν) → wpQuiet P l.toArray (fun W => ∃ X : Ext w, W = w.ext X) L (modTo U ν 0 n l) a) ∧
      (∀ c oc, l[c]? = some oc → U c = true → ∀ ν, Knows kv ν → ∀ W, w.Exts W → (∀ c', U c' = true → (∃ e ∈ oc.after, Region.binds .any e = true ∧ e.on = c') → Φ c' (ν c') W) → oc.gives P (A ν).eval W fun v W' => W.Exts W' ∧ Φ c v W') ∧
      (∀ ν, Knows kv ν → ∀ W, w.Exts W → (∀ c, c < n → U c = true → Φ c (ν c) W) → wpList P l.toArray Q (l.drop n) (A ν) W)) : (Code.region id l.toArray true).wp P Q a w :=
  let ⟨A, hwant, hwalk, hcall, htail⟩ := h
  wp_region_any hm (wpAny_callsK n U A Φ kv hkv hB hD hback hfed (fun ν hkn i oi hi hU => ⟨hwant ν hkn i oi hi hU, guardFedB_spec hgf hi hU⟩) (fun i o hi hin hU => by
    have h1 := List.all_eq_true.1 hp i (List.mem_range.2 hin)
    simpa [hU, hi] using h1) hmono (fun ν hkn L hL => by
      have h1 := hwalk ν hkn L hL
      rw [← modTo_eq] at h1
      exact wpQuiet_ops (fun tmps => (yielded_modU ν tmps).symm) _ _ h1) hcall htail)
end Go

/-
  'alive' answers true: some of the chapter's examples.
-/
namespace Go.Proofs.YtfjkiemjmnnbkaaDoor
open Go.RowKit Kr
set_option linter.unusedSimpArgs false
attribute [local go_sem] field_bay

/-- What the region of the examples' pieces leaves. -/
def AliveAt (c : Nat) (W : World) (v : Value) : Prop :=
  (c = 0 → ∃ v', v = .agg #[v'] ∧ BayIs W v' exBay) ∧ (c = 1 → ∃ l r s, v = .agg #[l, .int .i64 exGear.added, .int .i64 exGear.base, .int .i64 exGear.jitter, r, s, .int .i64 exGear.spread, .bool exGear.stamp] ∧ GearAt W (exGear, l, r, s)) ∧ (c = 3 → IsRow (fun x : Int => [.int .i64 x]) 1 W v [5000, 2000, 1000]) ∧ (c = 4 → ∃ vp, v = .tuple #[vp, .int .i64 0] ∧ IsRow (fun x : Int => [.int .i64 x]) 1 W vp [1]) ∧
  (c = 5 → ∃ vp, v = .tuple #[vp, .int .i64 0] ∧ IsRow (fun x : Int => [.int .i64 x]) 1 W vp [1]) ∧ (c = 6 → IsRow (fun x : Int => [.int .i64 x]) 1 W v [1]) ∧ (c = 7 → v = .int .i64 0)
theorem AliveAt.mono {c : Nat} {W W' : World} {v : Value} (h : AliveAt c W v) (hE : W.Exts W') : AliveAt c W' v := by
  obtain ⟨h1, h2, h3, h4, h5, h6, h7⟩ := h
  exact ⟨fun e => by obtain ⟨v', k1, k2⟩ := h1 e; exact ⟨v', k1, k2.mono hE⟩, fun e => by obtain ⟨l, r, s, k1, k2⟩ := h2 e; exact ⟨l, r, s, k1, k2.mono hE⟩, fun e => (h3 e).mono hE, fun e => by obtain ⟨v', k1, k2⟩ := h4 e; exact ⟨v', k1, k2.mono hE⟩, fun e => by obtain ⟨v', k1, k2⟩ := h5 e; exact ⟨v', k1, k2.mono hE⟩, fun e => (h6 e).mono hE, h7⟩

/-- What is known of the last region's calls. -/
def aliveKv : Nat → Option Value
  | 0 => some (.agg #[.int .i64 0, .int .i64 9])
  | 3 => some (.bool true)
  | 10 => some (.agg #[.int .i64 306782, .int .i64 306899])
  | 11 => some (.agg #[.int .i64 306991, .int .i64 307108])
  | 12 => some (.agg #[.int .i64 307202, .int .i64 307319])
  | 14 => some (.bool true)
  | 27 => some (.bool true)
  | 35 => some (.agg #[.int .i64 31, .int .i64 39])
  | 36 => some (.agg #[.int .i64 34, .int .i64 42])
  | 38 => some (.bool true)
  | 46 => some (.agg #[.int .i64 409, .int .i64 415])
  | 56 => some (.bool true)
  | 72 => some (.agg #[.int .i64 209700, .int .i64 210200])
  | 77 => some (.bool true)
  | _ => none
def aliveRow : Nat → Bool
  | 2 => true
  | 13 => true
  | 24 => true
  | 25 => true
  | 26 => true
  | 37 => true
  | 55 => true
  | 76 => true
  | _ => false
/-- What the last region leaves. -/
def AliveEnd (c : Nat) (W : World) (v : Value) : Prop :=
  (∀ u, aliveKv c = some u → v = u) ∧ (c = 2 → IsRow (fun t : Kr.Tune => [.int .i64 t.gain, .int .i64 t.off.lo, .int .i64 t.off.hi]) 3 W v [⟨0, ⟨0, 9⟩⟩]) ∧ (c = 13 → IsRow (fun t : Kr.Span => [.int .i64 t.lo, .int .i64 t.hi]) 2 W v [⟨306782, 306899⟩, ⟨306991, 307108⟩, ⟨307202, 307319⟩]) ∧ (c = 24 → IsRow (fun t : Int × Int => [.int .i64 t.1, .int .i64 t.2]) 2 W v [(0, 9), (1, 0)]) ∧
  (c = 26 → ∃ v1 v2, v = .agg #[v1, v2] ∧ IsRow (fun t : Int × Int => [.int .i64 t.1, .int .i64 t.2]) 2 W v1 [(0, 9), (1, 0)] ∧ IsRow (fun x : Int => [.int .i64 x]) 1 W v2 [94991, 209791]) ∧ (c = 25 → IsRow (fun x : Int => [.int .i64 x]) 1 W v [94991, 209791]) ∧ (c = 37 → IsRow (fun t : Kr.Span => [.int .i64 t.lo, .int .i64 t.hi]) 2 W v [⟨31, 39⟩, ⟨34, 42⟩]) ∧ (c = 55 → IsRow (fun x : Int => [.int .i64 x]) 1 W v [1]) ∧ (c = 76 → IsRow (fun x : Int => [.int .u8 x]) 1 W v [1, 2, 1, 2, 2])
theorem AliveEnd.mono {c : Nat} {W W' : World} {v : Value} (h : AliveEnd c W v) (hE : W.Exts W') : AliveEnd c W' v := by
  obtain ⟨h1, h2, h3, h4, h5, h6, h7, h8, h9⟩ := h
  exact ⟨h1, fun e => (h2 e).mono hE, fun e => (h3 e).mono hE, fun e => (h4 e).mono hE, fun e => by obtain ⟨v1, v2, k1, k2, k3⟩ := h5 e; exact ⟨v1, v2, k1, k2.mono hE, k3.mono hE⟩, fun e => (h6 e).mono hE, fun e => (h7 e).mono hE, fun e => (h8 e).mono hE, fun e => (h9 e).mono hE⟩
theorem AliveEnd.known {c : Nat} {W : World} {v u : Value} (hk : aliveKv c = some u) (hv : v = u) (hc : aliveRow c = false) : AliveEnd c W v := by
  subst hv
  refine ⟨fun u h => by rw [hk] at h; exact Option.some.inj h, fun e => ?_, fun e => ?_, fun e => ?_, fun e => ?_, fun e => ?_, fun e => ?_, fun e => ?_, fun e => ?_⟩ <;> (subst e; cases hc)
set_option maxRecDepth 100000 in
set_option maxHeartbeats 4000000 in
theorem l04_alive_any (w : World) (hcd : CondsAt w) : Calls Tryd.prog 4 #[] w fun e w' => e = .returned (.bool true) ∧ w.Exts w' := by
  have HCD := Lib.hid hcd
  clear hcd
  go_enter Tryd.func4, Tryd.ntmps4
  go_wp2_with (first
    | (go_at_call 8; refine (l04_bay_any _).mono ?_; rintro e w' ⟨v, rfl, hb, X, rfl⟩; have HB := Lib.hid hb; clear hb)
    | (go_at_call 10; refine (l04_gear_any _).mono ?_; rintro e w' ⟨l, r, s, rfl, hg, X, rfl⟩; have HG := Lib.hid hg; clear hg)
    | (go_at_call 13; refine (l04_norm_any _ _ _).mono ?_; rintro e w' ⟨rfl, X, rfl⟩)
    | (go_at_call 11; refine (scale_Totals_is exBay _ exGear _ _ _ _ (HB.out.mono exq) (HG.out.mono exq)).mono ?_; simp only [ex_totals]; rintro e w' ⟨v1, rfl, hv, X1, rfl⟩; obtain ⟨q1, c1, rfl⟩ := hv.len; have HV1 := Lib.hid hv; clear hv)
    | (go_at_call 16; refine (scale_Truth_is exBay _ exGear _ _ _ 306782 _ (HB.out.mono exq) (HG.out.mono exq)).mono ?_; simp only [ex_truth.1, ex_truth.2.1, ex_truth.2.2]; rintro e w' ⟨v2, v3, rfl, hv, hu, X2, rfl⟩; obtain ⟨q2, c2, rfl⟩ := hv.len; obtain ⟨q3, c3, rfl⟩ := hu.len; have HV2 := Lib.hid hv; have HV3 := Lib.hid hu; clear hv hu)
    | (go_at_call 18; refine (scale_Warm_any exGear _ _ _ _ (HG.out.mono exq)).mono ?_; simp only [ex_warm]; rintro e w' ⟨v4, rfl, hv, X3, rfl⟩; obtain ⟨q4, c4, rfl⟩ := hv.len; have HV4 := Lib.hid hv; clear hv)
    | (go_at_call 14; refine (scale_Hard_any exGear _ _ _ _ (HG.out.mono exq)).mono ?_; simp only [ex_hard]; rintro e w' ⟨rfl, X4, rfl⟩))
  refine wp_region_callsK 9 (fun i => i == 0 || i == 1 || i == 3 || i == 4 || i == 5 || i == 6 || i == 7) (fun c v W => AliveAt c W v) (fun c => if c = 7 then some (.int .i64 0) else none) (by kernel_rfl) (fun ν => by kernel_rfl) (by kernel_rfl) (by kernel_rfl) (by kernel_rfl) (by kernel_rfl) (by kernel_rfl) ?mono ?known ?_
  rotate_left 2
  apply Exists.intro
  refine ⟨fun ν hkn => ?want, fun ν hkn L hL => ?walk, fun c oc hc hU ν hkn W hE hΦ => ?calls, fun ν hkn W hE hΦ => ?tail⟩
  case walk =>
    repeat (first
      | (refine modTo_free rfl ?_; go_big_quiet_step (fail))
      | (refine modTo_call rfl rfl ?_; go_big_quiet_step (fail)))
    refine modTo_end ?_
    exact hL
  case want =>
    intro i oi hi hU
    simp at hU
    rcases hU with (((((rfl | rfl) | rfl) | rfl) | rfl) | rfl) | rfl
    all_goals
      simp only [List.getElem?_cons_succ, List.getElem?_cons_zero, Option.some.injEq] at hi
      subst hi
      rfl
  case mono => exact fun c v W W' h hE => h.mono hE
  case known =>
    intro c v W u h hk
    split at hk
    · cases hk; exact h.2.2.2.2.2.2 (by assumption)
    · cases hk
  case calls =>
    simp at hU
    rcases hU with (((((rfl | rfl) | rfl) | rfl) | rfl) | rfl) | rfl
    · simp only [List.getElem?_cons_succ, List.getElem?_cons_zero, Option.some.injEq] at hc
      subst hc
      refine Oper.gives_fn (xs := []) rfl rfl rfl (enters_of Tryd.func8 (by kernel_rfl) rfl) ?_ rfl
      refine (l04_bay_any W).mono ?_
      rintro e W' ⟨v', rfl, h1, h2⟩
      exact ⟨_, rfl, h2, fun _ => ⟨v', rfl, h1⟩, fun e => (by cases e), fun e => (by cases e), fun e => (by cases e), fun e => (by cases e), fun e => (by cases e), fun e => (by cases e)⟩
    · simp only [List.getElem?_cons_succ, List.getElem?_cons_zero, Option.some.injEq] at hc
      subst hc
      refine Oper.gives_fn (xs := []) rfl rfl rfl (enters_of Tryd.func10 (by kernel_rfl) rfl) ?_ rfl
      refine (l04_gear_any W).mono ?_
      rintro e W' ⟨l, r, s, rfl, h1, h2⟩
      exact ⟨_, rfl, h2, fun e => (by cases e), fun _ => ⟨l, r, s, rfl, h1⟩, fun e => (by cases e), fun e => (by cases e), fun e => (by cases e), fun e => (by cases e), fun e => (by cases e)⟩
    · simp only [List.getElem?_cons_succ, List.getElem?_cons_zero, Option.some.injEq] at hc
      subst hc
      refine .inr ⟨.slice (some ⟨W.heap.size, 0, none⟩) 3 3, W.alloc (.cells #[.int .i64 5000, .int .i64 2000, .int .i64 1000] 3), by kernel_rfl, exq, fun e => (by cases e), fun e => (by cases e), fun _ => ?_, fun e => (by cases e), fun e => (by cases e), fun e => (by cases e), fun e => (by cases e)⟩
      exact (row_lit (enc := fun x : Int => [.int .i64 x]) (k := 1) W #[.int .i64 5000, .int .i64 2000, .int .i64 1000] 3 [5000, 2000, 1000] _ 3 rfl rfl rfl (fun _ _ => rfl) (by decide)).2
    · simp only [List.getElem?_cons_succ, List.getElem?_cons_zero, Option.some.injEq] at hc
      subst hc
      obtain ⟨v0, hν0, hb0⟩ := (hΦ 0 rfl ⟨⟨0, .data⟩, by simp, rfl, rfl⟩).1 rfl
      obtain ⟨l0, r0, s0, hν1, hg0⟩ := (hΦ 1 rfl ⟨⟨1, .data⟩, by simp, rfl, rfl⟩).2.1 rfl
      have hp0 := (hΦ 3 rfl ⟨⟨3, .data⟩, by simp, rfl, rfl⟩).2.2.1 rfl
      clear hkn
      generalize ν 0 = n0 at *
      generalize ν 1 = n1 at *
      subst hν0 hν1
      refine Oper.gives_fn rfl rfl rfl (enters_of Tryd.func17 (by kernel_rfl) rfl) ?_ rfl
      refine (scale_Ballast_is exBay v0 exGear l0 r0 s0 ⟨⟨306000, 310000⟩, 6000, 40, ⟨405, 415⟩, true⟩ [5000, 2000, 1000] (ν 3) W hb0 hg0 hp0).mono ?_
      simp only [ex_ballast]
      rintro e W' ⟨v', rfl, h1, h2⟩
      exact ⟨_, rfl, h2, fun e => (by cases e), fun e => (by cases e), fun e => (by cases e), fun _ => ⟨v', rfl, h1⟩, fun e => (by cases e), fun e => (by cases e), fun e => (by cases e)⟩
    · simp only [List.getElem?_cons_succ, List.getElem?_cons_zero, Option.some.injEq] at hc
      subst hc
      obtain ⟨vp, hν4, h5⟩ := (hΦ 4 rfl ⟨⟨4, .data⟩, by simp, rfl, rfl⟩).2.2.2.1 rfl
      exact .inr ⟨ν 4, W, by kernel_rfl, World.Exts.refl _, fun e => (by cases e), fun e => (by cases e), fun e => (by cases e), fun e => (by cases e), fun _ => ⟨vp, hν4, h5⟩, fun e => (by cases e), fun e => (by cases e)⟩
    · simp only [List.getElem?_cons_succ, List.getElem?_cons_zero, Option.some.injEq] at hc
      subst hc
      obtain ⟨vp, hν5, h5⟩ := (hΦ 5 rfl ⟨⟨5, .data⟩, by simp, rfl, rfl⟩).2.2.2.2.1 rfl
      clear hkn
      generalize ν 5 = n5 at *
      subst hν5
      exact .inr ⟨vp, W, by kernel_rfl, World.Exts.refl _, fun e => (by cases e), fun e => (by cases e), fun e => (by cases e), fun e => (by cases e), fun e => (by cases e), fun _ => h5, fun e => (by cases e)⟩
    · simp only [List.getElem?_cons_succ, List.getElem?_cons_zero, Option.some.injEq] at hc
      subst hc
      obtain ⟨vp, hν5, h5⟩ := (hΦ 5 rfl ⟨⟨5, .data⟩, by simp, rfl, rfl⟩).2.2.2.2.1 rfl
      clear hkn
      generalize ν 5 = n5 at *
      subst hν5
      exact .inr ⟨.int .i64 0, W, by kernel_rfl, World.Exts.refl _, fun e => (by cases e), fun e => (by cases e), fun e => (by cases e), fun e => (by cases e), fun e => (by cases e), fun e => (by cases e), fun _ => rfl⟩
  case tail =>
  have h5 := (hΦ 6 (by decide) rfl).2.2.2.2.2.1 rfl
  have e7 := (hΦ 7 (by decide) rfl).2.2.2.2.2.2 rfl
  have hwW : w.Exts W := World.Exts.trans exq hE
  simp only [List.drop_succ_cons, List.drop_zero]
  generalize ν 6 = n6 at *
  generalize ν 7 = n7 at *
  subst e7
  obtain ⟨q5, c5, rfl⟩ := h5.len
  obtain ⟨XW, rfl⟩ := hE
  have HV5 := Lib.hid h5
  clear h5
  have HWW := Lib.hid hwW
  clear hwW
  clear hΦ
  go_wp2_with (first
    | (go_at_call 8; refine (l04_bay_any _).mono ?_; rintro e w' ⟨v, rfl, hb, X, rfl⟩; obtain ⟨qb, cb, eb⟩ := hb.len; rw [show exBay.length = 2 from rfl] at eb; subst eb; have HB := Lib.hid hb; clear hb)
    | (go_at_call 10; (fail_if_success (have h9 := HGa; skip)); refine (l04_gear_any _).mono ?_; rintro e w' ⟨l, r, s, rfl, hg, X, rfl⟩; have HGa := Lib.hid hg; clear hg)
    | (go_at_call 10; refine (l04_gear_any _).mono ?_; rintro e w' ⟨l, r, s, rfl, hg, X, rfl⟩; have HGb := Lib.hid hg; clear hg)
    | (go_at_call 13; refine (l04_norm_any _ _ _).mono ?_; rintro e w' ⟨rfl, X, rfl⟩)
    | (go_at_call 19; refine (scale_Again_is exBay _ exGear _ _ _ exGear _ _ _ (exNorm 307319 40) _ ?hb ?hg1 ?hg2).mono ?_; (case hb => exact HB.out.mono exq); (case hg1 => exact HGa.out.mono exq); (case hg2 => exact HGb.out.mono exq); simp only [ex_again]; rintro e w' ⟨rfl, X5, rfl⟩))
  obtain ⟨ts, hb, he⟩ := HB.out
  obtain ⟨q, b, o, cap, e, hm, hq, hc⟩ := hb.row.ex
  simp only [Value.slice.injEq] at e
  obtain ⟨rfl, -, rfl⟩ := e
  have hlen : ts.length = 2 := by rw [← List.length_map (f := Prod.fst), he]; rfl
  obtain ⟨rfl, hlay⟩ := hq (by omega)
  obtain ⟨x, hx⟩ : ∃ x, ts[1]? = some x := some_of_lt (by omega)
  have hcs := hc 1 x hx
  have c0 := hcs 0 _ rfl
  have c1 := hcs 1 _ rfl
  have c2 := hcs 2 _ rfl
  have c3 := hcs 3 _ rfl
  have c4 := hcs 4 _ rfl
  have c5 := hcs 5 _ rfl
  have c6 := hcs 6 _ rfl
  simp only [Nat.add_zero] at c0 c1 c2 c3 c4 c5 c6
  have hxs : x.1 = ⟨5, 100, ⟨-1, 1⟩, ⟨0, 0⟩, []⟩ := by
    have h9 : (ts.map Prod.fst)[1]? = some x.1 := by rw [List.getElem?_map, hx]; rfl
    rw [he] at h9
    exact (Option.some.inj h9).symm
  have htr := hb.tr x (List.mem_of_getElem? hx)
  rw [hxs] at htr c0 c1 c2 c3 c4 c5
  have HTR := Lib.hid htr
  clear htr hb he hm hq hc hlen hx hcs hxs HB
  go_wp2_with (go_at_call 7; refine (scale_Reads_any ⟨5, 100, ⟨-1, 1⟩, ⟨0, 0⟩, []⟩ _ 210000 _ (HTR.out.mono exq)).mono ?_; simp only [show reads ⟨5, 100, ⟨-1, 1⟩, ⟨0, 0⟩, []⟩ 210000 = (⟨209700, 210200⟩, 0) from ex_reads]; rintro e w' ⟨rfl, X6, rfl⟩)
  clear HTR
  simp only [lapp_cons, lapp_nil]
  refine wp_region_callsK 79 (fun i => i == 0 || i == 2 || i == 3 || i == 10 || i == 11 || i == 12 || i == 13 || i == 14 || i == 24 || i == 25 || i == 26 || i == 27 || i == 35 || i == 36 || i == 37 || i == 38 || i == 46 || i == 55 || i == 56 || i == 72 || i == 76 || i == 77) (fun c v W => AliveEnd c W v) (aliveKv) (by kernel_rfl) (fun ν => by kernel_rfl) (by kernel_rfl) (by kernel_rfl) (by kernel_rfl) (by kernel_rfl) (by kernel_rfl) ?mono ?known ?_
  rotate_left 2
  apply Exists.intro
  refine ⟨fun ν hkn => ?want, fun ν hkn L hL => ?walk, fun c oc hc hU ν hkn W hE hΦ => ?calls, fun ν hkn W hE hΦ => ?tail⟩
  case walk =>
    repeat (first
      | (refine modTo_free rfl ?_; go_big_quiet_step (fail))
      | (refine modTo_call rfl (hkn _ _ rfl) ?_; go_big_quiet_step (fail))
      | (refine modTo_call rfl rfl ?_; go_big_quiet_step (fail)))
    refine modTo_end ?_
    exact hL
  case want =>
    intro i oi hi hU
    simp at hU
    rcases hU with ((((((((((((((((((((rfl | rfl) | rfl) | rfl) | rfl) | rfl) | rfl) | rfl) | rfl) | rfl) | rfl) | rfl) | rfl) | rfl) | rfl) | rfl) | rfl) | rfl) | rfl) | rfl) | rfl) | rfl
    all_goals
      simp only [List.getElem?_cons_succ, List.getElem?_cons_zero, Option.some.injEq] at hi
      subst hi
      rfl
  case mono => exact fun c v W W' h hE => h.mono hE
  case known => exact fun c v W u h hk => h.1 u hk
  case calls =>
    have hwW : w.Exts W := World.Exts.trans (exf HWW.out) hE
    simp at hU
    rcases hU with ((((((((((((((((((((rfl | rfl) | rfl) | rfl) | rfl) | rfl) | rfl) | rfl) | rfl) | rfl) | rfl) | rfl) | rfl) | rfl) | rfl) | rfl) | rfl) | rfl) | rfl) | rfl) | rfl) | rfl
    · simp only [List.getElem?_cons_succ, List.getElem?_cons_zero, Option.some.injEq] at hc
      subst hc
      refine Oper.gives_fn (xs := [.const (.int .i64 0), .const (.int .i64 9)]) rfl rfl rfl (enters_of Tryd.func9 (by kernel_rfl) rfl) ?_ rfl
      refine (l04_span_any 0 9 W).mono ?_
      rintro e W' ⟨rfl, h2⟩
      exact ⟨_, rfl, h2, AliveEnd.known (c := 0) rfl rfl rfl⟩
    · simp only [List.getElem?_cons_succ, List.getElem?_cons_zero, Option.some.injEq] at hc
      subst hc
      exact .inr ⟨.slice (some ⟨W.heap.size, 0, none⟩) 1 1, W.alloc (.cells #[.int .i64 0, .int .i64 0, .int .i64 9] 27), by kernel_rfl, exq, ⟨fun u h => (by cases h), fun _ => (row_lit (enc := fun x : Tune => [.int .i64 x.gain, .int .i64 x.off.lo, .int .i64 x.off.hi]) (k := 3) W #[.int .i64 0, .int .i64 0, .int .i64 9] 27 [⟨0, ⟨0, 9⟩⟩] _ 1 rfl rfl rfl (fun _ _ => rfl) (by decide)).2, fun e => (by cases e), fun e => (by cases e), fun e => (by cases e), fun e => (by cases e), fun e => (by cases e), fun e => (by cases e), fun e => (by cases e)⟩⟩
    · simp only [List.getElem?_cons_succ, List.getElem?_cons_zero, Option.some.injEq] at hc
      subst hc
      have h2 := (hΦ 2 rfl ⟨⟨2, .data⟩, by simp, rfl, rfl⟩).2.1 rfl
      refine Oper.gives_fn rfl rfl rfl (enters_of Tryd.func5 (by kernel_rfl) rfl) ?_ rfl
      refine (l04_tuned_any 0 _ [⟨0, ⟨0, 9⟩⟩] rfl ex_tunes0.1 ex_tunes0.2 (by decide) (ν 2) W h2).mono ?_
      rintro e W' ⟨rfl, h3⟩
      exact ⟨_, rfl, h3, AliveEnd.known (c := 3) rfl rfl rfl⟩
    · simp only [List.getElem?_cons_succ, List.getElem?_cons_zero, Option.some.injEq] at hc
      subst hc
      refine Oper.gives_fn (xs := [.const (.int .i64 306782), .const (.int .i64 306899)]) rfl rfl rfl (enters_of Tryd.func9 (by kernel_rfl) rfl) ?_ rfl
      refine (l04_span_any 306782 306899 W).mono ?_
      rintro e W' ⟨rfl, h2⟩
      exact ⟨_, rfl, h2, AliveEnd.known (c := 10) rfl rfl rfl⟩
    · simp only [List.getElem?_cons_succ, List.getElem?_cons_zero, Option.some.injEq] at hc
      subst hc
      refine Oper.gives_fn (xs := [.const (.int .i64 306991), .const (.int .i64 307108)]) rfl rfl rfl (enters_of Tryd.func9 (by kernel_rfl) rfl) ?_ rfl
      refine (l04_span_any 306991 307108 W).mono ?_
      rintro e W' ⟨rfl, h2⟩
      exact ⟨_, rfl, h2, AliveEnd.known (c := 11) rfl rfl rfl⟩
    · simp only [List.getElem?_cons_succ, List.getElem?_cons_zero, Option.some.injEq] at hc
      subst hc
      refine Oper.gives_fn (xs := [.const (.int .i64 307202), .const (.int .i64 307319)]) rfl rfl rfl (enters_of Tryd.func9 (by kernel_rfl) rfl) ?_ rfl
      refine (l04_span_any 307202 307319 W).mono ?_
      rintro e W' ⟨rfl, h2⟩
      exact ⟨_, rfl, h2, AliveEnd.known (c := 12) rfl rfl rfl⟩
    · simp only [List.getElem?_cons_succ, List.getElem?_cons_zero, Option.some.injEq] at hc
      subst hc
      exact .inr ⟨.slice (some ⟨W.heap.size, 0, none⟩) 3 3, W.alloc (.cells #[.int .i64 306782, .int .i64 306899, .int .i64 306991, .int .i64 307108, .int .i64 307202, .int .i64 307319] 25), by kernel_rfl, exq, ⟨fun u h => (by cases h), fun e => (by cases e), fun _ => (row_lit (enc := fun x : Span => [.int .i64 x.lo, .int .i64 x.hi]) (k := 2) W #[.int .i64 306782, .int .i64 306899, .int .i64 306991, .int .i64 307108, .int .i64 307202, .int .i64 307319] 25 [⟨306782, 306899⟩, ⟨306991, 307108⟩, ⟨307202, 307319⟩] _ 3 rfl rfl rfl (fun _ _ => rfl) (by decide)).2, fun e => (by cases e), fun e => (by cases e), fun e => (by cases e), fun e => (by cases e), fun e => (by cases e), fun e => (by cases e)⟩⟩
    · simp only [List.getElem?_cons_succ, List.getElem?_cons_zero, Option.some.injEq] at hc
      subst hc
      have h13 := (hΦ 13 rfl ⟨⟨13, .data⟩, by simp, rfl, rfl⟩).2.2.1 rfl
      refine Oper.gives_fn rfl rfl rfl (enters_of Tryd.func20 (by kernel_rfl) rfl) ?_ rfl
      refine (r04_SameSpans_any [⟨306782, 306899⟩, ⟨306991, 307108⟩, ⟨307202, 307319⟩] _ (ν 13) W (HV1.out.mono (World.Exts.trans exq hE)) h13).mono ?_
      rintro e W' ⟨rfl, h3⟩
      exact ⟨_, rfl, h3, AliveEnd.known (c := 14) rfl rfl rfl⟩
    · simp only [List.getElem?_cons_succ, List.getElem?_cons_zero, Option.some.injEq] at hc
      subst hc
      exact .inr ⟨.slice (some ⟨W.heap.size, 0, none⟩) 2 2, W.alloc (.cells #[.int .i64 0, .int .i64 9, .int .i64 1, .int .i64 0] 74), by kernel_rfl, exq, ⟨fun u h => (by cases h), fun e => (by cases e), fun e => (by cases e), fun _ => (row_lit (enc := fun t : Int × Int => [.int .i64 t.1, .int .i64 t.2]) (k := 2) W #[.int .i64 0, .int .i64 9, .int .i64 1, .int .i64 0] 74 [(0, 9), (1, 0)] _ 2 rfl rfl rfl (fun _ _ => rfl) (by decide)).2, fun e => (by cases e), fun e => (by cases e), fun e => (by cases e), fun e => (by cases e), fun e => (by cases e)⟩⟩
    · simp only [List.getElem?_cons_succ, List.getElem?_cons_zero, Option.some.injEq] at hc
      subst hc
      exact .inr ⟨.slice (some ⟨W.heap.size, 0, none⟩) 2 2, W.alloc (.cells #[.int .i64 94991, .int .i64 209791] 3), by kernel_rfl, exq, ⟨fun u h => (by cases h), fun e => (by cases e), fun e => (by cases e), fun e => (by cases e), fun e => (by cases e), fun _ => (row_lit (enc := fun x : Int => [.int .i64 x]) (k := 1) W #[.int .i64 94991, .int .i64 209791] 3 [94991, 209791] _ 2 rfl rfl rfl (fun _ _ => rfl) (by decide)).2, fun e => (by cases e), fun e => (by cases e), fun e => (by cases e)⟩⟩
    · simp only [List.getElem?_cons_succ, List.getElem?_cons_zero, Option.some.injEq] at hc
      subst hc
      have h24 := (hΦ 24 rfl ⟨⟨24, .data⟩, by simp, rfl, rfl⟩).2.2.2.1 rfl
      have h25 := (hΦ 25 rfl ⟨⟨25, .data⟩, by simp, rfl, rfl⟩).2.2.2.2.2.1 rfl
      obtain ⟨qa, ca, ea⟩ := h24.len
      obtain ⟨qb2, cb2, eb⟩ := h25.len
      clear hkn hΦ
      generalize ν 24 = n24 at *
      generalize ν 25 = n25 at *
      subst ea eb
      exact .inr ⟨.agg #[.slice qa 2 ca, .slice qb2 2 cb2], W, by kernel_rfl, World.Exts.refl _, ⟨fun u h => (by cases h), fun e => (by cases e), fun e => (by cases e), fun e => (by cases e), fun _ => ⟨_, _, rfl, h24, h25⟩, fun e => (by cases e), fun e => (by cases e), fun e => (by cases e), fun e => (by cases e)⟩⟩
    · simp only [List.getElem?_cons_succ, List.getElem?_cons_zero, Option.some.injEq] at hc
      subst hc
      obtain ⟨va, vb, e26, h24, h25⟩ := (hΦ 26 rfl ⟨⟨26, .data⟩, by simp, rfl, rfl⟩).2.2.2.2.1 rfl
      clear hkn hΦ
      generalize ν 26 = n26 at *
      subst e26
      refine Oper.gives_fn rfl rfl rfl (enters_of Tryd.func21 (by kernel_rfl) rfl) ?_ rfl
      refine (r04_SameWeighed_any [(0, 9), (1, 0)] [94991, 209791] _ _ _ _ W (HV2.out.mono (World.Exts.trans exq hE)) h24 (HV3.out.mono (World.Exts.trans exq hE)) h25).mono ?_
      rintro e W' ⟨rfl, h3⟩
      exact ⟨_, rfl, h3, AliveEnd.known (c := 27) rfl rfl rfl⟩
    · simp only [List.getElem?_cons_succ, List.getElem?_cons_zero, Option.some.injEq] at hc
      subst hc
      refine Oper.gives_fn (xs := [.const (.int .i64 31), .const (.int .i64 39)]) rfl rfl rfl (enters_of Tryd.func9 (by kernel_rfl) rfl) ?_ rfl
      refine (l04_span_any 31 39 W).mono ?_
      rintro e W' ⟨rfl, h2⟩
      exact ⟨_, rfl, h2, AliveEnd.known (c := 35) rfl rfl rfl⟩
    · simp only [List.getElem?_cons_succ, List.getElem?_cons_zero, Option.some.injEq] at hc
      subst hc
      refine Oper.gives_fn (xs := [.const (.int .i64 34), .const (.int .i64 42)]) rfl rfl rfl (enters_of Tryd.func9 (by kernel_rfl) rfl) ?_ rfl
      refine (l04_span_any 34 42 W).mono ?_
      rintro e W' ⟨rfl, h2⟩
      exact ⟨_, rfl, h2, AliveEnd.known (c := 36) rfl rfl rfl⟩
    · simp only [List.getElem?_cons_succ, List.getElem?_cons_zero, Option.some.injEq] at hc
      subst hc
      exact .inr ⟨.slice (some ⟨W.heap.size, 0, none⟩) 2 2, W.alloc (.cells #[.int .i64 31, .int .i64 39, .int .i64 34, .int .i64 42] 25), by kernel_rfl, exq, ⟨fun u h => (by cases h), fun e => (by cases e), fun e => (by cases e), fun e => (by cases e), fun e => (by cases e), fun e => (by cases e), fun _ => (row_lit (enc := fun x : Span => [.int .i64 x.lo, .int .i64 x.hi]) (k := 2) W #[.int .i64 31, .int .i64 39, .int .i64 34, .int .i64 42] 25 [⟨31, 39⟩, ⟨34, 42⟩] _ 2 rfl rfl rfl (fun _ _ => rfl) (by decide)).2, fun e => (by cases e), fun e => (by cases e)⟩⟩
    · simp only [List.getElem?_cons_succ, List.getElem?_cons_zero, Option.some.injEq] at hc
      subst hc
      have h37 := (hΦ 37 rfl ⟨⟨37, .data⟩, by simp, rfl, rfl⟩).2.2.2.2.2.2.1 rfl
      refine Oper.gives_fn rfl rfl rfl (enters_of Tryd.func20 (by kernel_rfl) rfl) ?_ rfl
      refine (r04_SameSpans_any [⟨31, 39⟩, ⟨34, 42⟩] _ (ν 37) W (HV4.out.mono (World.Exts.trans exq hE)) h37).mono ?_
      rintro e W' ⟨rfl, h3⟩
      exact ⟨_, rfl, h3, AliveEnd.known (c := 38) rfl rfl rfl⟩
    · simp only [List.getElem?_cons_succ, List.getElem?_cons_zero, Option.some.injEq] at hc
      subst hc
      refine Oper.gives_fn (xs := [.const (.int .i64 409), .const (.int .i64 415)]) rfl rfl rfl (enters_of Tryd.func9 (by kernel_rfl) rfl) ?_ rfl
      refine (l04_span_any 409 415 W).mono ?_
      rintro e W' ⟨rfl, h2⟩
      exact ⟨_, rfl, h2, AliveEnd.known (c := 46) rfl rfl rfl⟩
    · simp only [List.getElem?_cons_succ, List.getElem?_cons_zero, Option.some.injEq] at hc
      subst hc
      exact .inr ⟨.slice (some ⟨W.heap.size, 0, none⟩) 1 1, W.alloc (.cells #[.int .i64 1] 3), by kernel_rfl, exq, ⟨fun u h => (by cases h), fun e => (by cases e), fun e => (by cases e), fun e => (by cases e), fun e => (by cases e), fun e => (by cases e), fun e => (by cases e), fun _ => (row_lit (enc := fun x : Int => [.int .i64 x]) (k := 1) W #[.int .i64 1] 3 [1] _ 1 rfl rfl rfl (fun _ _ => rfl) (by decide)).2, fun e => (by cases e)⟩⟩
    · simp only [List.getElem?_cons_succ, List.getElem?_cons_zero, Option.some.injEq] at hc
      subst hc
      have h55 := (hΦ 55 rfl ⟨⟨55, .data⟩, by simp, rfl, rfl⟩).2.2.2.2.2.2.2.1 rfl
      refine Oper.gives_fn rfl rfl rfl (enters_of Tryd.func22 (by kernel_rfl) rfl) ?_ rfl
      refine (r04_SameInts_any [1] _ (ν 55) W (HV5.out.mono (World.Exts.trans exq hE)) h55).mono ?_
      rintro e W' ⟨rfl, h3⟩
      exact ⟨_, rfl, h3, AliveEnd.known (c := 56) rfl rfl rfl⟩
    · simp only [List.getElem?_cons_succ, List.getElem?_cons_zero, Option.some.injEq] at hc
      subst hc
      refine Oper.gives_fn (xs := [.const (.int .i64 209700), .const (.int .i64 210200)]) rfl rfl rfl (enters_of Tryd.func9 (by kernel_rfl) rfl) ?_ rfl
      refine (l04_span_any 209700 210200 W).mono ?_
      rintro e W' ⟨rfl, h2⟩
      exact ⟨_, rfl, h2, AliveEnd.known (c := 72) rfl rfl rfl⟩
    · simp only [List.getElem?_cons_succ, List.getElem?_cons_zero, Option.some.injEq] at hc
      subst hc
      exact .inr ⟨.slice (some ⟨W.heap.size, 0, none⟩) 5 5, W.alloc (.cells #[.int .u8 1, .int .u8 2, .int .u8 1, .int .u8 2, .int .u8 2] 5), by kernel_rfl, exq, ⟨fun u h => (by cases h), fun e => (by cases e), fun e => (by cases e), fun e => (by cases e), fun e => (by cases e), fun e => (by cases e), fun e => (by cases e), fun e => (by cases e), fun _ => (row_lit (enc := fun x : Int => [.int .u8 x]) (k := 1) W #[.int .u8 1, .int .u8 2, .int .u8 1, .int .u8 2, .int .u8 2] 5 [1, 2, 1, 2, 2] _ 5 rfl rfl rfl (fun _ _ => rfl) (by decide)).2⟩⟩
    · simp only [List.getElem?_cons_succ, List.getElem?_cons_zero, Option.some.injEq] at hc
      subst hc
      have h76 := (hΦ 76 rfl ⟨⟨76, .data⟩, by simp, rfl, rfl⟩).2.2.2.2.2.2.2.2 rfl
      refine Oper.gives_fn rfl rfl rfl (enters_of Tryd.func6 (by kernel_rfl) rfl) ?_ rfl
      refine (l04_judged_any 307150 40 1 [1, 2, 1, 2, 2] (ν 76) W ex_judged h76 (HCD.out.mono hwW)).mono ?_
      rintro e W' ⟨rfl, h3⟩
      exact ⟨_, rfl, h3, AliveEnd.known (c := 77) rfl rfl rfl⟩
  case tail =>
    have hwW : w.Exts W := World.Exts.trans (exf HWW.out) hE
    simp only [List.drop_succ_cons, List.drop_zero]
    clear hΦ hkn
    go_wp2_with fail
    go_ret
    exact ⟨rfl, hwW⟩
end Go.Proofs.YtfjkiemjmnnbkaaDoor
