/-
  Walks of package scale: what Truth asks: its closures, IndexFunc at truths; a region with calls inside a round of a range over a function.
-/
import Derived.Test.YtfjkiemjmnnbkaaDoorTe
import Derived.Test.YtfjkiemjmnnbkaaDoorTq
import Derived.Test.YtfjkiemjmnnbkaaDoorTsA
namespace Go
open Go.RowKit
theorem wpIn_region_calls_round {P : Program} {id lp m : Nat} {Q : Exit → Act → World → Prop} {a : Act} {w : World} {l : List Oper} (n : Nat) (U : Nat → Bool) (Φ : Nat → Value → World → Prop) (hm : P.follows .mixedOrders = true) (hd : Region.noDefer l = true)
    (hB : ∀ ν, Region.lexTailB .any (modU l U ν).toArray n = true) (hD : Region.dstsB l = true) (hback : Region.backB l = true) (hfed : (Region.fedB .any l U && Region.freeB l U) = true) (hp : ((List.range n).all fun i => U i || match l[i]? with | some o => o.plainB | none => true) = true)
    (hmono : ∀ c v W W', Φ c v W → W.Exts W' → Φ c v W')
    (h : ∃ A : (Nat → Value) → Act, (∀ ν (L : Act → Prop), L (A ν) → wpQuiet P (modU l U ν).toArray (fun W => ∃ X : Ext w, W = w.ext X) L ((modU l U ν).take n) a) ∧
      (∀ c oc, l[c]? = some oc → U c = true → ∀ ν W, w.Exts W → (∀ c', U c' = true → (∃ e ∈ oc.after, Region.binds .any e = true ∧ e.on = c') → Φ c' (ν c') W) → oc.gives P (A ν).eval W fun v W' => W.Exts W' ∧ Φ c v W') ∧
      (∀ ν W, w.Exts W → (∀ c, c < n → U c = true → Φ c (ν c) W) → wpList P l.toArray (Exit.only (Q .normal)) (l.drop n) (A ν) W)) : (Code.region id l.toArray true).wpIn (Fence.wide.inRound lp) m P Q a w :=
  let ⟨A, hwalk, hcall, htail⟩ := h
  wpIn_region_any hm (wpAnyIn_round_of_wpAny (noDefer_spec hd) _ _ _ _ (wpAny_calls n U A Φ hB hD hback (Bool.and_eq_true_iff.1 hfed).1 (free_wanted (Bool.and_eq_true_iff.1 hfed).2) (fun i o hi hin hU => by
    have h1 := List.all_eq_true.1 hp i (List.mem_range.2 hin)
    simpa [hU, hi] using h1) hmono hwalk hcall htail))
end Go
namespace Go.Proofs.YtfjkiemjmnnbkaaDoor
open Go.RowKit Kr
set_option linter.unusedSimpArgs false

set_option maxHeartbeats 400000 in
theorem IndexFunc_truth_any (xs : List Part) (p : Part → Bool) (g : Nat) (cb : Array Value) (v : Value) (w : World) (hrow : IsRow (fun t : Part => [.int .i64 t.gain, .int .i64 t.off, .int .i64 t.sum.lo, .int .i64 t.sum.hi]) 4 w v xs)
    (eg : ∀ args w, (callFunc g args).run Tryd.prog w = .ok (.enter g args) w) (hf : Answers Tryd.prog g cb (fun t : Part => .agg #[.int .i64 t.gain, .int .i64 t.off, .int .i64 t.sum.lo, .int .i64 t.sum.hi]) w p xs) :
    Calls Tryd.prog 44 #[v, .func (.func g) #[] cb] w fun e w' => e = .returned (.int .i64 (firstAt p xs)) ∧ w.Exts w' := by
  obtain ⟨q, b, o, cap, rfl, hm, hq, hc⟩ := hrow.ex
  have HC := Lib.hid hc
  have HQ := Lib.hid hq
  have HF := Lib.hid hf
  clear hc hq hf hrow
  go_enter Tryd.func44, Tryd.ntmps44
  go_wp2_with fail
  go_loopw [5, 8] (fun _ i wr => ∃ k : Nat, k ≤ xs.length ∧ i = .int .i64 k ∧ Hid (∀ y ∈ xs.take k, p y = false) ∧ w.Exts wr) (fun _ i _ => xs.length - (intOf i).toNat)
  case atStart => exact ⟨0, Nat.zero_le _, rfl, Lib.hid (fun y hy => by simp at hy), World.Exts.refl _⟩
  case round =>
    obtain ⟨k, hk, rfl, HA, X, rfl⟩ := hrel
    by_cases hlt : k < xs.length
    · obtain ⟨rfl, hl⟩ := HQ.out (by omega)
      obtain ⟨x, hx⟩ := some_of_lt hlt
      have hcs := HC.out k x hx
      have c0 := hcs 0 _ rfl
      have c1 := hcs 1 _ rfl
      have c2 := hcs 2 _ rfl
      have c3 := hcs 3 _ rfl
      simp only [Nat.add_zero] at c0 c1 c2 c3
      have hcall := HF.out x (List.mem_of_getElem? hx) _ ⟨X, rfl⟩
      have HX := Lib.hid hx
      clear hx HQ HC HF hcs
      cases hp : p x with
      | true =>
        rw [hp] at hcall
        have HP := Lib.hid hp
        clear hp
        go_wp2_with (go_at_fn g; refine hcall.mono ?_; rintro e w' ⟨rfl, X2, rfl⟩)
        go_ret
        exact ⟨by rw [firstAt_hit HX.out HP.out HA.out]; rfl, exq⟩
      | false =>
        rw [hp] at hcall
        have HP := Lib.hid hp
        clear hp
        go_wp2_with (go_at_fn g; refine hcall.mono ?_; rintro e w' ⟨rfl, X2, rfl⟩)
        go_roundw
        case rel => exact ⟨k + 1, by omega, by go_num, Lib.hid (by rw [take_snoc HX.out]; intro y hy; rcases List.mem_append.1 hy with h | h; exact HA.out y h; rw [List.mem_singleton.1 h]; exact HP.out), exq⟩
        case measure => simp [intOf]; omega
    · have hkn : k = xs.length := by omega
      have hA := HA.out
      rw [hkn, List.take_length] at hA
      have HA' := Lib.hid hA
      clear hA hkn
      go_wp2_with fail
      go_ret
      exact ⟨by rw [firstAt_miss HA'.out]; rfl, exq⟩

set_option maxHeartbeats 400000 in
theorem scale_Truth_1_any (s : Span) (total : Int) (bt : Nat) (w : World) (hb : w.cell? ⟨bt, 0, none⟩ = some (.int .i64 total)) :
    Calls Tryd.prog 38 #[.agg #[.int .i64 s.lo, .int .i64 s.hi], .pointer (some ⟨bt, 0, none⟩)] w fun e w' => e = .returned (.bool (inAll s.lo s.hi [total])) ∧ w.Exts w' := by
  have hL := Lays.of_cell hb
  go_enter Tryd.func38, Tryd.ntmps38
  go_wp2_with (go_at_call 26; refine (scale_in_any s.lo s.hi _ [total] _ (row_int1 _ _ _ (by simp))).mono ?_; rintro e w' ⟨rfl, X2, rfl⟩)
  go_ret
  exact ⟨rfl, exq⟩

set_option maxHeartbeats 1000000 in
theorem scale_Truth_2_1_any (t : Span) (left : Span) (q : Part) (bl bx : Nat) (w : World) (hl0 : w.cell? ⟨bl, 0, none⟩ = some (.int .i64 left.lo)) (hl1 : w.cell? ⟨bl, 1, none⟩ = some (.int .i64 left.hi))
    (hx2 : w.cell? ⟨bx, 2, none⟩ = some (.int .i64 q.sum.lo)) (hx3 : w.cell? ⟨bx, 3, none⟩ = some (.int .i64 q.sum.hi)) (hb : -100000000 ≤ left.lo ∧ left.lo ≤ 100000000 ∧ -100000000 ≤ left.hi ∧ left.hi ≤ 100000000) (hs : 0 ≤ q.sum.lo ∧ q.sum.lo ≤ q.sum.hi ∧ q.sum.hi ≤ 100000000) :
    Calls Tryd.prog 46 #[.agg #[.int .i64 t.lo, .int .i64 t.hi], .pointer (some ⟨bl, 0, none⟩), .pointer (some ⟨bx, 0, none⟩)] w fun e w' => e = .returned (.bool (decide (t.lo ≤ left.hi - q.sum.lo) && decide (left.lo - q.sum.hi ≤ t.hi))) ∧ w.Exts w' := by
  have hL := Lays.of_cell hl0
  have hL2 := Lays.of_cell hx2
  rcases Int.lt_or_le (left.hi - q.sum.lo) t.lo with h1 | h1
  · have hd : decide (t.lo ≤ left.hi - q.sum.lo) = false := by simp; omega
    rw [hd, Bool.false_and]
    go_enter Tryd.func46, Tryd.ntmps46
    go_wp2_with fail
    go_ret
    exact ⟨rfl, exq⟩
  · have hd : decide (t.lo ≤ left.hi - q.sum.lo) = true := by simpa using h1
    rw [hd, Bool.true_and]
    go_enter Tryd.func46, Tryd.ntmps46
    go_wp2_with fail
    go_ret
    exact ⟨rfl, exq⟩

set_option maxHeartbeats 1000000 in
theorem scale_Truth_2_any (q : Part) (R : List Span) (vr : Value) (i B0 bl bi bL : Nat) (left : Span) (w : World) (n c : Nat) (hn : i + 1 < n) (hL0 : w.cell? ⟨bL, 0, none⟩ = some (.slice (some ⟨B0, 0, none⟩) n c)) (hi : w.cell? ⟨bi, 0, none⟩ = some (.int .i64 (i : Int))) (hi2 : i ≤ 1000)
    (hr : w.cell? ⟨B0, i + 1, none⟩ = some vr) (hrow : IsRow (fun t : Kr.Span => [.int .i64 t.lo, .int .i64 t.hi]) 2 w vr R)
    (hl0 : w.cell? ⟨bl, 0, none⟩ = some (.int .i64 left.lo)) (hl1 : w.cell? ⟨bl, 1, none⟩ = some (.int .i64 left.hi)) (hb : -100000000 ≤ left.lo ∧ left.lo ≤ 100000000 ∧ -100000000 ≤ left.hi ∧ left.hi ≤ 100000000) (hs : 0 ≤ q.sum.lo ∧ q.sum.lo ≤ q.sum.hi ∧ q.sum.hi ≤ 100000000) :
    Calls Tryd.prog 45 #[.agg #[.int .i64 q.gain, .int .i64 q.off, .int .i64 q.sum.lo, .int .i64 q.sum.hi], .pointer (some ⟨bL, 0, none⟩), .pointer (some ⟨bi, 0, none⟩), .pointer (some ⟨bl, 0, none⟩)] w fun e w' => e = .returned (.bool (touches R (left.lo - q.sum.hi) (left.hi - q.sum.lo))) ∧ w.Exts w' := by
  obtain ⟨p, cap, rfl⟩ := hrow.len
  have hLL := Lays.of_cell hL0
  have hLi := Lays.of_cell hi
  have hLr := Lays.of_cell hr
  have hLl := Lays.of_cell hl0
  have hfin : R.any (fun t => decide (t.lo ≤ left.hi - q.sum.lo) && decide (left.lo - q.sum.hi ≤ t.hi)) = touches R (left.lo - q.sum.hi) (left.hi - q.sum.lo) := rfl
  have HFIN := Lib.hid hfin
  clear hfin
  have HR := Lib.hid hrow
  clear hrow
  go_enter Tryd.func45, Tryd.ntmps45
  go_wp2_with (go_at_call 37; refine (ContainsFunc_Span_any R (fun t => decide (t.lo ≤ left.hi - q.sum.lo) && decide (left.lo - q.sum.hi ≤ t.hi)) _ _ _ _ (HR.out.mono exq) (enters_of Tryd.func46 (by kernel_rfl) rfl) (answers2 fun t ht W hW => scale_Truth_2_1_any t left q _ _ W (hW.cell (by simp [go_sem, hl0])) (hW.cell (by simp [go_sem, hl1])) (hW.cell (by simp [go_sem])) (hW.cell (by simp [go_sem])) hb hs)).mono ?_; rintro e w' ⟨rfl, X2, rfl⟩)
  go_ret
  exact ⟨by rw [HFIN.out]; rfl, exq⟩
end Go.Proofs.YtfjkiemjmnnbkaaDoor
