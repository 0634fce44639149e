/-
  Several texts in one: see the heads of its parts.
-/
import Derived.Test.YtihkmkocgmkcjaaGreatDoorGno
import Derived.Test.YtihkmkocgmkcjaaGreatDoorScG
import Derived.RangeFuncMany
import Derived.Sort.MapsRangeIn
import Derived.Test.YtihkmkocgmkcjaaGreatDoorGRq
import Derived.Test.YtihkmkocgmkcjaaGreatDoorGBq

/-
  Walks: maps.Values of a map of ints, slices.Collect of its iterator.
-/
namespace Go.Proofs.YtihkmkocgmkcjaaGreatDoor
open Go.RowKit Go.Maps Go.Shelf Kr
set_option linter.unusedSimpArgs false
set_option linter.unusedVariables false

def encI (x : Int) : Array Value := #[.int .i64 x]
theorem walk_of_row {W : World} {base : Nat} {e : TypeId} {size : Nat} {v : Value} {k : Nat} {xs : List Value} (h : W.ownsRow base e size v k xs) : ∀ (j : Nat) (o : Obj), v.ownBlock = some j → W.heap[j]? = some o → o.isWalk = false := by
  intro j o e ho
  rcases h.2 with ⟨rfl, _⟩ | ⟨g, cap, cur, rfl, _, hgb, _⟩
  · cases e
  · have : g = j := by simpa [Value.ownBlock] using e
    subst this
    rw [hgb] at ho
    cases ho
    rfl

set_option maxRecDepth 100000 in
set_option maxHeartbeats 1000000 in
/-- The iterator over a map's values: the values of all keys come, in some order. -/
theorem values_stops (n : Nat) (hn : 1 ≤ n) (Bm b nn : Nat) (p : Int → Bool) (f : Int → Int) (D0 : DataW Value) (w : World) (hBm : Bm < w.heap.size) (hm : w.cell? ⟨Bm, 0, none⟩ = some (.map (some b))) (hown : w.ownsMap Tryz.prog 3 readSelf b nn D0) (hM : MapOf D0 p f) :
    SeqStopsK Fence.wide n Tryz.prog 154 #[.pointer (some ⟨Bm, 0, none⟩)] encI KeepsWalks (fun xs => ∃ ks : List Int, Came p (fun _ => false) ks ∧ xs = ks.map f) (fun _ => True) (Maps.size D0) w := by
  intro l J Jx W hW hJ _ hY h0
  have hown' : W.ownsMap Tryz.prog 3 readSelf b nn D0 := by
    have hbl := hown.lt
    obtain ⟨es, clock, hb, Ft, hs, hD⟩ := hown
    exact ⟨es, clock, (hW.block b hbl).trans hb, Ft, hs, hD⟩
  have hm' : W.cell? ⟨Bm, 0, none⟩ = some (.map (some b)) := (hW.cell (p := ⟨Bm, 0, none⟩) hBm).trans hm
  clear hm hown hW hBm
  show CallsIn Fence.wide n Tryz.prog 154 #[.func (.yield l) #[] #[], .pointer (some ⟨Bm, 0, none⟩)] _ _
  refine callsIn_of_wp Tryz.func154 rfl trivial ?_ rfl
  simp only [Tryz.ntmps154, List.size_toArray, List.length_cons, List.length_nil, Nat.reduceAdd, Nat.reduceSub, Array.replicate_succ, Array.replicate_zero, List.push_toArray, List.append_toArray, List.nil_append, List.cons_append]
  gi_wp2_with (first
    | (gi_at_range; refine wpListIn_range_own _ rfl _ 210 rfl 3 3 law_int Tryz.underlying210 readSelf b nn _ rfl hown' ?_; intro w0 hrg0 hg0 hs0)
    | gi_in)
  go_frame
  gi_loopw [4] (fun _ wr => ∃ (left : Lit → Bool) (cnt : Nat) (ks : List Int), wr.ranges Tryz.prog 3 readSelf b W.heap.size nn D0 left cnt ∧ ks.length + cnt ≤ Maps.size D0 ∧ Came p left ks ∧ J (ks.map f) wr)
    (fun _ wr => wr.rangeLeft b W.heap.size)
  case atStart => exact ⟨_, _, [], hrg0, by simp, Came.start hM, hJ [] W w0 none h0 hg0 (fun r e => by cases e)⟩
  case round =>
    obtain ⟨left, cnt, ks, hrg, hcs, hC, hJs⟩ := hrel
    gi_wp2_with (first
      | (gi_at_next; refine wpListIn_next_ranges _ rfl _ rfl 3 law_int readSelf (Value.int .i64) id (fun key kl hkey => by obtain ⟨x, rfl, _⟩ := Maps.keyOf_int_inv Tryz.underlying3 hkey; exact ⟨x, rfl⟩) (fun v y hv => ⟨v, rfl⟩) b W.heap.size nn _ _ _ rfl hrg ?_ ?_)
      | gi_in)
    · intro hc0 hl0
      gi_wp2
      go_end0
      exact ⟨⟨_, rfl⟩, .inl ⟨_, ⟨ks, ⟨hC.1, fun x => by rw [hC.2 x, hl0]⟩, rfl⟩, hJs⟩⟩
    · intro x c kl yd yp w2 cnt2 hkey hlk hv hat hrg2 hlt hg2 hs2 hen
      obtain ⟨x', ex, rfl, _⟩ := Maps.keyOf_int_inv Tryz.underlying3 hkey
      cases ex
      obtain ⟨hpx, hyx⟩ := hM.val hat
      obtain rfl : c = .int .i64 (f x) := by
        simp [readSelf] at hv
        rw [hyx] at hv
        have := hv.1
        simpa using this
      have hJ2 : J (ks.map f) w2 := hJ _ wr w2 (some W.heap.size) hJs hg2 (fun r e => by cases e; exact ⟨Nat.le_refl _, hrg.iter_walk⟩)
      obtain ⟨fn, tmps, assign, body, hy, hR⟩ := hY (ks.map f) (f x) w2 hJ2 (by simp; omega)
      dsimp only [encI] at hy
      clear hs2
      gi_wp2
      refine hR.mono ?_
      have hC2 : Came p (fun z => left z && !z.sameKey (.int .i64 x)) (ks ++ [x]) := hC.step hpx hlk
      rintro e W3 (⟨rfl, hJ3, hk3⟩ | ⟨rfl, hJx3⟩)
      · gi_wp2
        have hrg3 := hrg2.of_walks hk3
        go_roundw
        case rel => exact ⟨_, cnt2, ks ++ [x], hrg3, by simp; omega, hC2, by simpa using hJ3⟩
        case measure => rw [hrg3.left_eq, hrg.left_eq]; exact hlt
      · gi_wp2
        refine bodyPost_ret (results_none rfl _ _ _) rfl ?_
        exact ⟨⟨_, rfl⟩, .inr ⟨_, trivial, hJx3⟩⟩

set_option maxHeartbeats 400000 in
theorem maps_Values_any (b : Nat) (w : World) :
    Calls Tryz.prog 122 #[.map (some b)] w fun e w' => e = .returned (.func (.func 154) #[] #[.pointer (some ⟨w.heap.size, 0, none⟩)]) ∧ w' = w.alloc (.cells #[.map (some b)] 210) := by
  go_enter Tryz.func122, Tryz.ntmps122
  go_wp2_with fail
  go_ret
  exact ⟨rfl, rfl⟩

attribute [local go_sem] Oper.semAt_some
set_option maxRecDepth 100000 in
set_option maxHeartbeats 4000000 in
theorem AppendSeq_int_in (n : Nat) (hn : 2 ≤ n) (g : Nat) (lb : Array Value) (eg : ∀ args w, (callFunc g args).run Tryz.prog w = .ok (.enter g args) w) (S Sp : List Int → Prop) (N : Nat) (hN : N ≤ 1000) (w : World)
    (hseq : SeqStopsK Fence.wide (n - 1) Tryz.prog g lb encI KeepsWalks S Sp N w) :
    CallsIn Fence.wide n Tryz.prog 153 #[.slice none 0 0, .func (.func g) #[] lb] w fun e w' => ∃ v xs, e = .returned v ∧ S xs ∧ w'.ownsRow w.heap.size 3 1 v xs.length (xs.map (Value.int .i64)) ∧ w.Exts w' := by
  obtain ⟨i0, hi, hz0, hz1, hz2⟩ := info_parts elem_int.inf
  refine callsIn_of_wp_marks Tryz.func153 rfl trivial ?_ rfl
  simp only [Tryz.ntmps153, List.size_toArray, List.length_cons, List.length_nil, Nat.reduceAdd, Nat.reduceSub, Array.replicate_succ, Array.replicate_zero, List.push_toArray, List.append_toArray, List.nil_append, List.cons_append]
  gi_wp2
  have bS := Boxed.new w 36 (.slice none 0 0)
  refine wpIn_rangeFunc_ownH rfl (by omega) (gf := g) (lb := lb) rfl trivial eg hseq (fun h k => KeepsWalks.trans h k) (fun W l o o' _ ho _ hw => KeepsWalks.putObj o' ho hw) ((Below.refl _ w).alloc (Nat.le_refl _) _) (fun _ => rfl)
    (fun pre W => (∃ v, Boxed W w.heap.size 36 v ∧ W.ownsRow w.heap.size 3 1 v pre.length (pre.map (Value.int .i64)) ∧ True) ∧ Below w.heap.size w W)
    (fun _ _ _ => False)
    (OwnFrom.and (Own.from (holdsRow_own w.heap.size w.heap.size 36 3 1 (fun pre : List Int => pre.length) (fun pre => pre.map (Value.int .i64)) (fun _ _ => True)) _) (ownFrom_below (Nat.le_refl _) (by simp)))
    (fun _ _ _ _ _ hs _ _ => hs)
    ⟨⟨_, bS, World.ownsRow_nil _ _ _ _, trivial⟩, (Below.refl _ w).alloc (Nat.le_refl _) _⟩
    (fun x a' W => a' = { tmps := #[.slice none 0 0, .func (.func g) #[] lb, .pointer (some ⟨w.heap.size, 0, none⟩), undef, .slice none 0 0, .int .i64 x, .func (.func g) #[] lb, .int .i64 x, undef, undef, undef, undef, undef], defers := [] })
    (fun x a' _ X Y row hs hg hr => hs)
    ?assign ?body ?done ?stop
  case assign =>
    rintro l pre x W K ⟨⟨v, hv, hrow, -⟩, hB⟩ hK
    dsimp only [encI]
    gi_wp2
    exact hK _ _ ((KeepsOthers.refl _).from _) (KeepsWalks.refl _) ⟨⟨v, hv, hrow, trivial⟩, hB⟩ rfl
  case body =>
    rintro l pre x a' W hl ⟨r, hr⟩ ⟨⟨v, hv, hrow, -⟩, hB⟩ rfl hlt
    have hc := hv.cell
    have hwr := walk_of_row (hrow.alloc (.cells #[.int .i64 x] 3))
    have hnew : ∀ (j : Nat) (u : Value), ([.int .i64 x] : List Value)[j]? = some u → (W.alloc (.cells #[.int .i64 x] 3)).cell? ((⟨W.heap.size, 0, none⟩ : Addr).add j) = some u := by
      intro j u hj
      rw [show (⟨W.heap.size, 0, none⟩ : Addr).add j = ⟨W.heap.size, j, none⟩ from by unfold Addr.add; split <;> simp_all]
      rw [World.cell?_alloc_new]
      simpa using hj
    gi_wp2_with (gi_at_builtin; refine wpListIn_append_own _ rfl _ _ 36 rfl w.heap.size 3 i0 (.int .i64 0) 1 8 Tryz.underlying36 hi hz0 hz1 hz2 rfl (by decide) _ _ _ rfl (hrow.alloc _) ⟨W.heap.size, 0, none⟩ 1 1 [.int .i64 x] rfl rfl hnew (by intro u hu; simp at hu; subst hu; rfl) (by unfold maxLen; omega) (by omega) (by have := hB.size; simp; omega) ?_; intro v' w1 hown' hgrow _; have hkw := (KeepsWalks.alloc W (.cells #[.int .i64 x] 3)).trans (KeepsWalks.of_grownBy hgrow hwr); obtain ⟨g', cap', rfl⟩ := ownsRow_succ hown'; obtain ⟨hv1, hv2, hr2, hk2, hb2⟩ := hv.appended (by decide) hrow hB.size (Nat.le_refl _) hown' hgrow; have hc1 := hv1.cell; have hf1 := hv1.frozen)
    exact ⟨hk2.from _, hkw.trans (KeepsWalks.setCell _ _ _), ⟨_, hv2, by simpa using hr2, trivial⟩, hB.trans hb2⟩
  case done =>
    rintro D ys W hD hS ⟨⟨v, hv, hrow, -⟩, hB⟩ hK
    have hc := hv.cell
    gi_wp2
    refine ⟨by simp, .inl ⟨_, _, rfl, run_takeDeferred hK, ?_⟩⟩
    exact ⟨_, results_tmp rfl _ _ _, v, ys, rfl, hS, ownsRow_putObj hrow _ hK rfl, .of (hB.trans (belowK_b (w := w) (Nat.le_refl _) W D _ _ (by simp at hD; omega) hK rfl rfl))⟩
  case stop =>
    rintro D c pre W _ _ h _
    exact h.elim

set_option maxHeartbeats 400000 in
theorem Collect_int_any (g : Nat) (lb : Array Value) (eg : ∀ args w, (callFunc g args).run Tryz.prog w = .ok (.enter g args) w) (S Sp : List Int → Prop) (N : Nat) (hN : N ≤ 1000) (w : World)
    (hseq : SeqStopsK Fence.wide 1 Tryz.prog g lb encI KeepsWalks S Sp N w) :
    Calls Tryz.prog 121 #[.func (.func g) #[] lb] w fun e w' => ∃ v xs, e = .returned v ∧ S xs ∧ IsRow (fun x : Int => [.int .i64 x]) 1 w' v xs ∧ w.Exts w' := by
  go_enter Tryz.func121, Tryz.ntmps121
  go_wp2_with (go_at_call 153; refine ((callsIn_wide (n := 2)).1 (AppendSeq_int_in 2 (by omega) g lb eg S Sp N hN _ hseq)).mono ?_; rintro e w' ⟨v, xs, rfl, hS, ho, X2, rfl⟩)
  go_ret
  refine ⟨v, xs, rfl, hS, ?_, exq⟩
  have key : ∀ l : List Int, (l.flatMap fun x : Int => [Value.int .i64 x]) = l.map (Value.int .i64) := fun l => by
    induction l with
    | nil => rfl
    | cons a l ih => rw [List.flatMap_cons, ih]; rfl
  exact IsRow.of_owns (by rw [key]; exact ho) (fun _ _ => rfl)
end Go.Proofs.YtihkmkocgmkcjaaGreatDoor

/-
  For the walk of guest's Check: plain laws, and what is owed together.
-/
namespace Kr
theorem check_none (b : List Scale) : check b noGear = if bayOk b then 0 else 40 := by
  have hg : gearOk b noGear = true := by
    have h : bare noGear = true := by decide
    unfold gearOk
    rw [h]
    rfl
  unfold check
  rw [hg]
  rfl
theorem book_facts2 {m : Books} (h0 : headB m = true) (h6 : inAll 0 1000000000 m.cash = true) (h7 : allN (outAt m.bay (m.cash.length : Int) m.outings) m.outings.length = true) (h8 : allN (rfdAt m.refunds) m.refunds.length = true) (h9 : inAll 2 ((m.cash.length : Int) - 1) m.pleas = true) : BookFacts m := by
  unfold headB at h0
  simp only [Bool.and_eq_true, decide_eq_true_eq] at h0
  obtain ⟨h1, h2, h3, h4, h5⟩ := h0
  have h1 := inb_iff.1 h1
  refine ⟨by omega, by omega, h2, h3, inb_iff.1 h4, h5, inAll_mem h6, fun o ho => ?_, fun r hr => ?_, inAll_mem h9⟩
  · obtain ⟨k, hk⟩ := List.getElem?_of_mem ho
    have h12 := allN_iff.1 h7 k (List.getElem?_eq_some_iff.1 hk).1
    unfold outAt at h12
    rw [getD_of hk, Bool.and_eq_true] at h12
    exact out_facts h12.1
  · obtain ⟨k, hk⟩ := List.getElem?_of_mem hr
    have h12 := allN_iff.1 h8 k (List.getElem?_eq_some_iff.1 hk).1
    unfold rfdAt at h12
    rw [getD_of hk, Bool.and_eq_true, Bool.and_eq_true] at h12
    exact ⟨inb_iff.1 h12.1, inb_iff.1 h12.2.2⟩
def lastOf (os : List Outing) (k : Nat) : Int := if k = 0 then -1 else (os.getD (k - 1) default).id
theorem lastOf_zero (os : List Outing) : lastOf os 0 = -1 := rfl
theorem lastOf_succ {os : List Outing} {k : Nat} {o : Outing} (h : os[k]? = some o) : lastOf os (k + 1) = o.id := by
  unfold lastOf
  rw [if_neg (by omega), Nat.add_sub_cancel, getD_of h]
theorem outAt_last {b : List Scale} {n : Int} {os : List Outing} {k : Nat} {o : Outing} (h : os[k]? = some o) : outAt b n os k = (!decide (o.id ≤ lastOf os k) && outOk b n o) := by
  unfold outAt lastOf
  rw [getD_of h]
  by_cases hk : k = 0
  · subst hk
    simp only [decide_true, Bool.true_or, Bool.and_true, if_true]
    cases ho : outOk b n o
    · simp
    · have := (out_facts ho).id
      have h1 : decide (o.id ≤ -1) = false := by simp; omega
      rw [h1]; rfl
  · rw [decide_eq_false hk, if_neg hk, Bool.false_or, Bool.and_comm]
    congr 1
    rw [Bool.eq_iff_iff]; simp
def mostOf (rs : List Rfd) (k : Nat) : Int := if k = 0 then 400 else (rs.getD (k - 1) default).days - 1
theorem mostOf_succ {rs : List Rfd} {k : Nat} {r : Rfd} (h : rs[k]? = some r) : mostOf rs (k + 1) = r.days - 1 := by
  unfold mostOf
  rw [if_neg (by omega), Nat.add_sub_cancel, getD_of h]
theorem mostOf_bd {rs : List Rfd} {k : Nat} (hk : ∀ j, j < k → rfdAt rs j = true) : -1 ≤ mostOf rs k ∧ mostOf rs k ≤ 400 := by
  unfold mostOf
  by_cases h0 : k = 0
  · rw [if_pos h0]; omega
  · rw [if_neg h0]
    have h1 := hk (k - 1) (by omega)
    unfold rfdAt at h1
    rw [Bool.and_eq_true] at h1
    have := inb_iff.1 h1.1
    omega
theorem rfdAt_most {rs : List Rfd} {k : Nat} {r : Rfd} (h : rs[k]? = some r) (hk : ∀ j, j < k → rfdAt rs j = true) : rfdAt rs k = (inb 0 (mostOf rs k) r.days && inb 0 100 r.part) := by
  have hm := mostOf_bd hk
  unfold rfdAt
  unfold mostOf at hm ⊢
  rw [getD_of h, ← Bool.and_assoc]
  congr 1
  by_cases h0 : k = 0
  · subst h0; simp
  · rw [if_neg h0] at hm ⊢
    rw [decide_eq_false h0, Bool.false_or, Bool.eq_iff_iff]
    simp only [Bool.and_eq_true, inb_iff, decide_eq_true_eq]
    omega
end Kr
namespace Go.Proofs.YtihkmkocgmkcjaaGreatDoor
open Go.RowKit Go.Maps Kr
set_option linter.unusedSimpArgs false
set_option linter.unusedVariables false
/-- A load of many cells, guarded. -/
theorem wpList_load_guarded {P : Program} {ops : Array Oper} {rest : List Oper} {op : Oper} {a : Act} {w : World} {Q : Exit → Act → World → Prop} (hw : Region.wanted op (yielded ops a.tmps) = true) (ty : TypeId) (x : Operand) (ho : op.op = .load ty x)
    (b o : Nat) (hx : a.eval x = .pointer (some ⟨b, o, none⟩)) (cs : List Value) (d : TypeDesc) (hc : w.rangeAt b o cs)
    (hu : P.underlying ty = some d) (hd : d.isRow = true) (hi : (P.info? ty).map (·.size) = some cs.length)
    (h : wpList P ops Q rest (a.put op.dst (.agg cs.toArray)) w) : wpList P ops Q (op :: rest) a w := by
  unfold wpList
  rw [if_pos hw]
  exact .inl (wp_load_mid ty x ho b o hx cs d hc hu hd hi h)
theorem OwedMap.mono {w w' : World} {b n : Nat} {f : Int → Int} (h : OwedMap w b n f) (hE : w.Exts w') : OwedMap w' b n f := by
  obtain ⟨c, D, h1, h2, h3⟩ := h
  exact ⟨c, D, h1, ownsMap_exts h2 hE, h3⟩
/-- The values of the map of what is owed: their sum is what is held. -/
theorem owed_sum {m : Kr.Books} (hf : BookFacts m) {ks : List Int} (hc : Came (fun i => accB m.cash.length i && !(owedBy m.outings m.fee m.pleas i == 0)) (fun _ => false) ks) :
    (ks.map (owedBy m.outings m.fee m.pleas)).sum = heldOf m.outings m.fee m.pleas ∧ (ks.map (owedBy m.outings m.fee m.pleas)).length ≤ 8 := by
  have hm : ∀ x, x ∈ ks ↔ (fun i => accB m.cash.length i && !(owedBy m.outings m.fee m.pleas i == 0)) x = true := fun x => by rw [hc.2 x]; simp
  have hp : ∀ x, (fun i => accB m.cash.length i && !(owedBy m.outings m.fee m.pleas i == 0)) x = true → 0 ≤ x ∧ x < (m.cash.length : Int) := fun x hx => by
    dsimp only at hx
    rw [Bool.and_eq_true] at hx
    exact accB_iff.1 hx.1
  have hl := came_len hc.1 hm hp
  have h8 := hf.cash8
  refine ⟨?_, by rw [List.length_map]; omega⟩
  rw [sum_came (g := owedBy m.outings m.fee m.pleas) hc.1 hm hp (fun x h0 h1 => by
    rw [accB_iff.2 ⟨h0, h1⟩, Bool.true_and]
    by_cases hz : owedBy m.outings m.fee m.pleas x = 0
    · rw [hz]; rfl
    · rw [if_pos (by simpa using hz)])]
  exact owed_held (fun o ho x hx => by have := (hf.out o ho).who x hx; omega) (fun x hx => by have := hf.plea x hx; omega)
theorem owed_small {m : Kr.Books} (hf : BookFacts m) (i : Int) : 0 ≤ owedBy m.outings m.fee m.pleas i ∧ owedBy m.outings m.fee m.pleas i ≤ 4000000 := by
  have h1 := owedBy_bd (os := m.outings) (fee := m.fee) (pleas := m.pleas) (fun o ho => by
    have h13 := hf.out o ho
    have h14 := h13.seats
    have h15 := h13.few
    exact ⟨h13.price, by omega⟩) hf.fee i
  have h2 := hf.outs
  have h3 := hf.pleas
  omega
/-- What is known of the calls that reckon what is owed together. -/
def CkPh (n : Nat) (F : Int → Int) (held : Int) (c : Nat) (v : Value) (W : World) : Prop :=
  (c = 1 → ∃ b, v = .map (some b) ∧ OwedMap W b n F) ∧
  (c = 2 → ∃ Bm b, v = .func (.func 154) #[] #[.pointer (some ⟨Bm, 0, none⟩)] ∧ Bm < W.heap.size ∧ W.cell? ⟨Bm, 0, none⟩ = some (.map (some b)) ∧ OwedMap W b n F) ∧
  (c = 3 → ∃ xs : List Int, IsRow (fun x : Int => [.int .i64 x]) 1 W v xs ∧ xs.sum = held ∧ xs.length ≤ 8 ∧ ∀ x ∈ xs, 0 ≤ x ∧ x ≤ 1000000000000) ∧
  (c = 4 → v = .int .i64 held)
theorem CkPh.mono {n : Nat} {F : Int → Int} {held : Int} {c : Nat} {v : Value} {W W' : World} (h : CkPh n F held c v W) (hE : W.Exts W') : CkPh n F held c v W' := by
  refine ⟨fun e => ?_, fun e => ?_, fun e => ?_, h.2.2.2⟩
  · obtain ⟨b, h1, h2⟩ := h.1 e
    exact ⟨b, h1, h2.mono hE⟩
  · obtain ⟨Bm, b, h1, h2, h3, h4⟩ := h.2.1 e
    exact ⟨Bm, b, h1, Nat.lt_of_lt_of_le h2 hE.below.size, hE.cell h3, h4.mono hE⟩
  · obtain ⟨xs, h1, h2⟩ := h.2.2.1 e
    exact ⟨xs, h1.mono hE, h2⟩
end Go.Proofs.YtihkmkocgmkcjaaGreatDoor
