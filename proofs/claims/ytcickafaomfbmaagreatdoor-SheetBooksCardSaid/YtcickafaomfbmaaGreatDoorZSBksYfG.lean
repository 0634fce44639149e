/-
  Several texts in one: see the heads of its parts.
-/

import Derived.Test.YtcickafaomfbmaaGreatDoorZSBksYaZ
import Derived.Test.YtcickafaomfbmaaGreatDoorZSBksIuQ
import Derived.RecoverIn
import Derived.BigRegion
import Derived.Test.YtcickafaomfbmaaGreatDoorZSBksYcD
import Derived.Test.YtcickafaomfbmaaGreatDoorZSBksYe
import Derived.Test.YtcickafaomfbmaaGreatDoorZSBksVqZ
/-
  Walks of package sheet: what a panic of the reader turns into.
-/
namespace Go.Proofs.YtcickafaomfbmaaGreatDoor
open Go.RowKit Kr
set_option linter.unusedSimpArgs false
set_option linter.unusedVariables false

/-- The three results' boxes. -/
structure ResAt (W : World) (p : Nat) (kd : Int) (v : Value) (n e : Int) : Prop where
  s : LaysAs W p (.cells #[.int .u8 kd, v] 36 (0, 0))
  l : LaysAs W (p + 1) (.cells #[.int .i64 n] 3 (0, 0))
  e : LaysAs W (p + 1 + 1) (.cells #[.int .i64 e] 37 (0, 0))
theorem ResAt.exts {W W' : World} {p : Nat} {kd : Int} {v : Value} {n e : Int} (h : ResAt W p kd v n e) (hE : W.Exts W') : ResAt W' p kd v n e := ⟨h.s.exts hE, h.l.exts hE, h.e.exts hE⟩

set_option maxRecDepth 4000 in
set_option maxHeartbeats 4000000 in
theorem read_idle (n p : Nat) (W : World) :
    CallsDIn Fence.wide n Tryz.prog 33 #[.pointer (some ⟨p, 0, none⟩), .pointer (some ⟨p + 1, 0, none⟩), .pointer (some ⟨p + 1 + 1, 0, none⟩)] .returning W fun e u' w' => e = .returned (.tuple #[]) ∧ u' = .returning ∧ w' = W := by
  refine callsDIn_of_wpSIn Tryz.func33 rfl trivial fun c₀ cs hu => ?_
  simp only [Tryz.ntmps33, List.size_toArray, List.length_cons, List.length_nil, Nat.reduceAdd, Nat.reduceSub, Array.replicate_succ, Array.replicate_zero, List.push_toArray, List.append_toArray, List.nil_append, List.cons_append]
  apply wpSIn_seq
  apply wpSIn_region
  simp [wpOpsSIn, go_sem, recoverD, hu, Exit.thenS, Fence.wide]
  refine wpSIn_of_wpIn (F := Fence.wide) rfl (wpIn_wide.2 ?_)
  go_wp2_with fail
  cases c₀
  simp_all [bodyPostS, results, Tryz.results33]

theorem assert_wrong (T : TypeId) (v : Value) (W : World) : Sem.run Tryz.prog (Instr.typeAssert (.iface 89 v) T 89 true) W = .ok (.tuple #[v, .bool true]) W := by kernel_rfl
attribute [local go_sem] assert_wrong
set_option maxRecDepth 4000 in
set_option maxHeartbeats 4000000 in
theorem read_catch (n p : Nat) (x e0 : Int) (W : World) (kd : Int) (v : Value) (i j : Int) (h : ResAt W p kd v i j) :
    CallsDIn Fence.wide n Tryz.prog 33 #[.pointer (some ⟨p, 0, none⟩), .pointer (some ⟨p + 1, 0, none⟩), .pointer (some ⟨p + 1 + 1, 0, none⟩)] (.panicking [{ v := wrongV x e0, recovered := false }]) W fun e u' w' => e = .returned (.tuple #[]) ∧ u' = .panicking [{ v := wrongV x e0, recovered := true }] ∧ ResAt w' p 0 (.slice none 0 0) x e0 ∧ ∀ A : World, A.Exts W → A.heap.size ≤ p → A.Exts w' := by
  refine callsDIn_of_wpSIn Tryz.func33 rfl trivial fun c₀ cs hu => ?_
  simp only [Tryz.ntmps33, List.size_toArray, List.length_cons, List.length_nil, Nat.reduceAdd, Nat.reduceSub, Array.replicate_succ, Array.replicate_zero, List.push_toArray, List.append_toArray, List.nil_append, List.cons_append]
  unfold wrongV at hu ⊢
  apply wpSIn_seq
  apply wpSIn_region
  simp [wpOpsSIn, go_sem, recoverD, hu, Exit.thenS, Fence.wide]
  refine wpSIn_of_wpIn (F := Fence.wide) rfl (wpIn_wide.2 ?_)
  have hpz := h.s.lt
  have hlz := h.l.lt
  have hez := h.e.lt
  have s0 := LaysAs.cell (cs := [.int .u8 kd, v]) h.s 0 _ rfl
  have s1 := LaysAs.cell (cs := [.int .u8 kd, v]) h.s 1 _ rfl
  have l0 := LaysAs.cell (cs := [.int .i64 i]) h.l 0 _ rfl
  have e1 := LaysAs.cell (cs := [.int .i64 j]) h.e 0 _ rfl
  have ns := Lays.of_cell s0
  have nl := Lays.of_cell l0
  have ne := Lays.of_cell e1
  have fs0 := laysAs_frz (i := 0) h.s
  have fs1 := laysAs_frz (i := 1) h.s
  have fl0 := laysAs_frz (i := 0) h.l
  have fe0 := laysAs_frz (i := 0) h.e
  have HR := Lib.hid h
  clear h
  go_wp2_with fail
  go_big_region
  have n1 : p + 1 ≠ p := by omega
  have n2 : p + 1 + 1 ≠ p := by omega
  have n3 : p ≠ p + 1 := by omega
  have n4 : p + 1 + 1 ≠ p + 1 := by omega
  have n5 : p ≠ p + 1 + 1 := by omega
  have n6 : p + 1 ≠ p + 1 + 1 := by omega
  have hs := laysAs_else (laysAs_else (LaysAs.set (cs := [.int .u8 0, v]) (i := 1) (LaysAs.set (cs := [.int .u8 kd, v]) (i := 0) HR.out.s (.int .u8 0)) (.slice none 0 0)) (a := ⟨p + 1, 0, none⟩) n1 (.int .i64 x)) (a := ⟨p + 1 + 1, 0, none⟩) n2 (.int .i64 e0)
  have hl := laysAs_else (LaysAs.set (cs := [.int .i64 i]) (i := 0) (laysAs_else (laysAs_else HR.out.l (a := ⟨p, 0, none⟩) n3 (.int .u8 0)) (a := ⟨p, 1, none⟩) n3 (.slice none 0 0)) (.int .i64 x)) (a := ⟨p + 1 + 1, 0, none⟩) n4 (.int .i64 e0)
  have he := LaysAs.set (cs := [.int .i64 j]) (i := 0) (laysAs_else (laysAs_else (laysAs_else HR.out.e (a := ⟨p, 0, none⟩) n5 (.int .u8 0)) (a := ⟨p, 1, none⟩) n5 (.slice none 0 0)) (a := ⟨p + 1, 0, none⟩) n6 (.int .i64 x)) (.int .i64 e0)
  refine ⟨rfl, _, rfl, .tuple #[], results_none rfl _ _ _, rfl, rfl, ⟨hs.exts exq, hl.exts exq, he.exts exq⟩, fun A hA hp => ?_⟩
  exact World.Exts.drew (World.Exts.alloc ((((hA.setCell hp _).setCell hp _).setCell (show A.heap.size ≤ p + 1 by omega) _).setCell (show A.heap.size ≤ p + 1 + 1 by omega) _) _)
end Go.Proofs.YtcickafaomfbmaaGreatDoor

/-
  Walks of package sheet: what is read of a text.
-/
namespace Kr
open Go
set_option linter.unusedVariables false
theorem readAll_snoc : ∀ {l : List (List UInt8)} {n : Nat} {st st' : RSt} {x : List UInt8}, readAll n st l = .ok st' → readAll n st (l ++ [x]) = match takeL (n + l.length) st' x with
    | .error e => .error (n + l.length, e)
    | .ok s => .ok s
  | [], n, st, st', x, h => by
    injection h with h
    subst h
    simp only [List.nil_append, readAll, List.length_nil, Nat.add_zero]
    cases takeL n st x <;> rfl
  | y :: l, n, st, st', x, h => by
    rw [readAll] at h
    rw [List.cons_append, readAll]
    cases ht : takeL n st y with
    | error e => rw [ht] at h; cases h
    | ok s =>
      rw [ht] at h
      dsimp only at h ⊢
      rw [readAll_snoc h, List.length_cons, show n + 1 + l.length = n + (l.length + 1) by omega]
theorem readAll_more : ∀ {l r : List (List UInt8)} {n : Nat} {st : RSt} {p : Nat × Int}, readAll n st l = .error p → readAll n st (l ++ r) = .error p
  | [], r, n, st, p, h => by cases h
  | y :: l, r, n, st, p, h => by
    rw [readAll] at h
    rw [List.cons_append, readAll]
    cases ht : takeL n st y with
    | error e => rw [ht] at h; exact h
    | ok s =>
      rw [ht] at h
      exact readAll_more h
/-- A line that is wrong, when the lines ahead of it were right. -/
theorem readAll_stop {L : List (List UInt8)} {n k : Nat} {st st' : RSt} {x : List UInt8} {e : Int} (h : readAll n st (L.take k) = .ok st') (hk : L[k]? = some x) (ht : takeL (n + k) st' x = .error e) : readAll n st L = .error (n + k, e) := by
  have hl : (L.take k).length = k := by rw [List.length_take]; have := (List.getElem?_eq_some_iff.1 hk).1; omega
  have h1 := readAll_snoc (x := x) h
  rw [hl, ht] at h1
  have h2 := readAll_more (r := L.drop (k + 1)) h1
  rw [← take_snoc hk, List.take_append_drop] at h2
  exact h2
theorem readAll_next {L : List (List UInt8)} {n k : Nat} {st st' s : RSt} {x : List UInt8} (h : readAll n st (L.take k) = .ok st') (hk : L[k]? = some x) (ht : takeL (n + k) st' x = .ok s) : readAll n st (L.take (k + 1)) = .ok s := by
  have hl : (L.take k).length = k := by rw [List.length_take]; have := (List.getElem?_eq_some_iff.1 hk).1; omega
  rw [take_snoc hk, readAll_snoc h, hl, ht]
theorem kindOf_few (b : List UInt8) : ∃ k : Nat, kindOf b = k ∧ k ≤ 4 := by
  rcases kindNo_spec b with ⟨_, h⟩ | ⟨_, h1, h⟩
  · exact ⟨0, h, by decide⟩
  · exact ⟨_, h, h1⟩
theorem takeL_few {n kn : Nat} {rows : List (List Int)} {ended : Bool} {l : List UInt8} {s : RSt} (h : takeL n ⟨kn, rows, ended⟩ l = .ok s) (hk : kn ≤ 4) (hr : rows.length ≤ 100) : (∃ k : Nat, s.kd = k ∧ k ≤ 4) ∧ s.rows.length ≤ 100 := by
  unfold takeL at h
  split at h
  · cases h
  · split at h
    · cases h
    · rename_i s' hm
      split at h
      · injection h with h
        subst h
        unfold midL at hm
        split at hm
        · split at hm
          · cases hm
          · injection hm with hm
            subst hm
            exact ⟨kindOf_few _, hr⟩
        · split at hm
          · split at hm
            · injection hm with hm
              subst hm
              exact ⟨⟨kn, rfl, hk⟩, hr⟩
            · cases hm
          · split at hm
            · cases hm
            · split at hm
              · injection hm with hm
                subst hm
                refine ⟨⟨kn, rfl, hk⟩, ?_⟩
                rename_i hlt
                dsimp only at hlt ⊢
                rw [List.length_append]
                simp
                omega
              · cases hm
      · cases h
/-- How many lines behind the first one a state stands for. -/
def cntL (st : RSt) : Nat := st.rows.length + if st.ended then 1 else 0
theorem take_cnt {n : Nat} {st s : RSt} {l : List UInt8} (h : takeL n st l = .ok s) (hn : n ≠ 1) : cntL s = cntL st + 1 := by
  unfold takeL at h
  split at h
  · cases h
  · rename_i hne
    have he : st.ended = false := by
      cases hh : st.ended with
      | false => rfl
      | true => rw [hh] at hne; simp at hne
    split at h
    · cases h
    · rename_i s' hm
      split at h
      · injection h with h
        subst h
        unfold midL at hm
        rw [if_neg hn] at hm
        split at hm
        · split at hm
          · injection hm with hm
            subst hm
            unfold cntL
            dsimp only
            rw [he]
            simp
          · cases hm
        · split at hm
          · cases hm
          · split at hm
            · injection hm with hm
              subst hm
              unfold cntL
              dsimp only
              rw [he, List.length_append]
              simp
            · cases hm
      · cases h
theorem readAll_cnt : ∀ {l : List (List UInt8)} {n : Nat} {st s : RSt}, readAll n st l = .ok s → 2 ≤ n → cntL s = cntL st + l.length
  | [], n, st, s, h, _ => by
    injection h with h
    subst h
    rfl
  | y :: l, n, st, s, h, hn => by
    rw [readAll] at h
    cases ht : takeL n st y with
    | error e => rw [ht] at h; cases h
    | ok s' =>
      rw [ht] at h
      have h1 := take_cnt ht (by omega)
      have h2 := readAll_cnt (l := l) (n := n + 1) h (by omega)
      rw [List.length_cons]
      omega
theorem readAll_few {l : List (List UInt8)} {s : RSt} (h : readAll 1 ⟨0, [], false⟩ l = .ok s) (hr : s.rows.length ≤ 100) : l.length ≤ 102 := by
  match l with
  | [] => simp
  | y :: l =>
    rw [readAll] at h
    cases ht : takeL 1 ⟨0, [], false⟩ y with
    | error e => rw [ht] at h; cases h
    | ok s' =>
      rw [ht] at h
      have h2 := readAll_cnt (l := l) (n := 1 + 1) h (by omega)
      have h3 : cntL s ≤ 101 := by unfold cntL; split <;> omega
      rw [List.length_cons]
      omega
theorem readR_error {t : List UInt8} {n : Nat} {e : Int} (h15 : ¬ 1500 < t.length) (h : readAll 1 ⟨0, [], false⟩ (cutLines t).1 = .error (n, e)) : readR t = ((0, []), (n : Int), e) := by unfold readR; rw [if_neg h15, h]
theorem readR_ends {t : List UInt8} {st : RSt} (h15 : ¬ 1500 < t.length) (h : readAll 1 ⟨0, [], false⟩ (cutLines t).1 = .ok st) (hT : (cutLines t).2 ≠ [] ∨ st.ended = false) : readR t = ((0, []), (((cutLines t).1.length + 1 : Nat) : Int), 111) := by unfold readR; rw [if_neg h15, h]; exact if_pos hT
theorem readR_done {t : List UInt8} {st : RSt} (h15 : ¬ 1500 < t.length) (h : readAll 1 ⟨0, [], false⟩ (cutLines t).1 = .ok st) (hT : (cutLines t).2 = []) (he : st.ended = true) : readR t = if sheetB st.kd st.rows then ((st.kd, st.rows), 0, 0) else ((0, []), 0, 110) := by
  unfold readR
  rw [if_neg h15, h]
  exact if_neg (fun e => by rcases e with e | e; exact e hT; rw [he] at e; cases e)
end Kr
namespace Go.Proofs.YtcickafaomfbmaaGreatDoor
open Go.RowKit Kr
set_option linter.unusedSimpArgs false
set_option linter.unusedVariables false

theorem ResAt.turn {W W' : World} {p bT : Nat} {kd : Int} {v : Value} {n e : Int} {row : Option Nat} (h : ResAt W p kd v n e) (hb : p + 1 + 1 < bT) (hg : W.grownBy W' row) (hr : ∀ r, row = some r → r = bT ∨ ∃ o : Obj, W.heap[r]? = some o ∧ o.isCells = false) : ResAt W' p kd v n e :=
  ⟨h.s.turn (by omega) hg hr, h.l.turn (by omega) hg hr, h.e.turn (by omega) hg hr⟩
/-- A row's cells lie as they lay where another block is turned. -/
theorem row_turn {W W' : World} {v : Value} {x : List Int} {row : Option Nat} (h : IsRow (fun x : Int => [.int .i64 x]) 1 W v x) (hg : W.grownBy W' row) (hne : ∀ b, v.ownBlock = some b → some b ≠ row) : IsRow (fun x : Int => [.int .i64 x]) 1 W' v x := by
  obtain ⟨p, b, o, cap, rfl, hm, hp, hc⟩ := h.ex
  have keep : 0 < x.length → ∀ i u, W.cell? ⟨b, i, none⟩ = some u → W'.cell? ⟨b, i, none⟩ = some u := fun h0 i u hu => by
    obtain ⟨e, hl⟩ := hp h0
    have hb := hg.block b hl.lt (hne b (by rw [e]; rfl))
    unfold World.cell? at hu ⊢
    rw [hb]
    exact hu
  refine ⟨p, b, o, cap, rfl, hm, fun h0 => ⟨(hp h0).1, ?_⟩, fun i y hy j u hu => ?_⟩
  · have h1 := hc 0 x[0] (List.getElem?_eq_getElem h0) 0 _ rfl
    exact Lays.of_cell (keep h0 _ _ h1)
  · have h0 : 0 < x.length := by have := (List.getElem?_eq_some_iff.1 hy).1; omega
    exact keep h0 _ _ (hc i y hy j u hu)
theorem OwnLists.turn {W W' : World} {base : Nat} {v : Value} {ps : List (List Int × Value)} {row : Option Nat} (h : OwnLists W base v ps) (hg : W.grownBy W' row) (hr : ∀ r, row = some r → r < base ∨ ∃ o : Obj, W.heap[r]? = some o ∧ o.isCells = false) : OwnLists W' base v ps := by
  have hv : v = .slice Option.none 0 0 ∨ ∃ k, v.ownBlock = some k ∧ some k ≠ row := by
    rcases h.own.2 with ⟨e, _⟩ | ⟨g, cap, cur, e, hb, hgc, _⟩
    · exact .inl e
    · refine .inr ⟨g, by rw [e]; rfl, fun e2 => ?_⟩
      rcases hr g e2.symm with h2 | ⟨o, ho, hc⟩
      · omega
      · rw [hgc] at ho; cases ho; cases hc
  refine ⟨h.own.kept hg ?_, Nat.le_trans h.base_le hg.size, fun x hx => ?_⟩
  · rcases hv with rfl | ⟨k, hk, hne⟩
    · exact .inl rfl
    · rw [hk]; exact .inr hne
  · obtain ⟨h1, h2⟩ := h.mem x hx
    have hcells : ∀ b, x.2.ownBlock = some b → some b ≠ row ∨ x.1.length = 0 := fun b hb => by
      by_cases h0 : x.1.length = 0
      · exact .inr h0
      · refine .inl fun e2 => ?_
        rcases hr b e2.symm with h3 | ⟨o, ho, hc⟩
        · have := (h2 b hb).1; omega
        · obtain ⟨p, b', o', cap, e, hm, hp, hcc⟩ := h1.ex
          obtain ⟨e3, hl⟩ := hp (by omega)
          rw [e, e3] at hb
          have : b' = b := by simpa [Value.ownBlock] using hb
          subst this
          have h4 := hcc 0 x.1[0] (List.getElem?_eq_getElem (by omega)) 0 _ rfl
          unfold World.cell? at h4
          rw [ho] at h4
          cases o <;> simp_all [Obj.isCells]
    refine ⟨?_, fun b hb => ⟨(h2 b hb).1, Nat.lt_of_lt_of_le (h2 b hb).2.1 hg.size, (h2 b hb).2.2⟩⟩
    by_cases h0 : x.1.length = 0
    · obtain ⟨p, b', o', cap, e, hm, hp, hcc⟩ := h1.ex
      exact ⟨p, b', o', cap, e, hm, fun h3 => absurd h3 (by omega), fun i y hy => by have := (List.getElem?_eq_some_iff.1 hy).1; omega⟩
    · exact row_turn h1 hg (fun b hb => (hcells b hb).resolve_right h0)

/-- The reader between two lines. -/
def RdAt (br base n : Nat) (st : RSt) (W : World) : Prop :=
  ∃ (kn : Nat) (v : Value) (rs : List (List Int × Value)), st.kd = kn ∧ kn ≤ 4 ∧ rs.length ≤ 100 ∧ LaysAs W br (.cells [.int .i64 n, .int .u8 kn, v, .bool st.ended].toArray 95 (0, 0)) ∧ OwnLists W base v rs ∧ rs.map Prod.fst = st.rows
theorem RdAt.turn {br base n : Nat} {st : RSt} {W W' : World} {bT : Nat} {row : Option Nat} (h : RdAt br base n st W) (hb : br ≠ bT) (hbb : bT < base) (hg : W.grownBy W' row) (hr : ∀ r, row = some r → r = bT ∨ ∃ o : Obj, W.heap[r]? = some o ∧ o.isCells = false) : RdAt br base n st W' := by
  obtain ⟨kn, v, rs, h1, h2, h3, h4, h5, h6⟩ := h
  exact ⟨kn, v, rs, h1, h2, h3, h4.turn hb hg hr, h5.turn hg (fun r e => (hr r e).imp (fun e2 => by omega) id), h6⟩
theorem RdAt.exts {br base n : Nat} {st : RSt} {W W' : World} (h : RdAt br base n st W) (hE : W.Exts W') : RdAt br base n st W' := by
  obtain ⟨kn, v, rs, h1, h2, h3, h4, h5, h6⟩ := h
  exact ⟨kn, v, rs, h1, h2, h3, h4.exts hE, h5.exts hE, h6⟩

theorem laysAs_turns {W W' : World} {b br base : Nat} {ob : Obj} (h : LaysAs W b ob) (h1 : b ≠ br) (h2 : b < base) (hT : Turns br base W W') : LaysAs W' b ob := hT.keep b ob h h1 (.inl h2)
theorem ResAt.turns {W W' : World} {p br base : Nat} {kd : Int} {v : Value} {n e : Int} (h : ResAt W p kd v n e) (h1 : p + 1 + 1 < br) (h2 : p + 1 + 1 < base) (hT : Turns br base W W') : ResAt W' p kd v n e :=
  ⟨laysAs_turns h.s (by omega) (by omega) hT, laysAs_turns h.l (by omega) (by omega) hT, laysAs_turns h.e (by omega) (by omega) hT⟩
theorem ResAt.other {W : World} {p : Nat} {kd : Int} {v : Value} {n e : Int} (h : ResAt W p kd v n e) {a : Addr} (h1 : p + 1 + 1 < a.block) (u : Value) : ResAt (W.setCell a u) p kd v n e :=
  ⟨laysAs_else h.s (by omega) u, laysAs_else h.l (by omega) u, laysAs_else h.e (by omega) u⟩
theorem ResAt.store {W : World} {p : Nat} {kd kd' : Int} {v v' : Value} {n n' e e' : Int} (h : ResAt W p kd v n e) :
    ResAt ((((W.setCell ⟨p, 0, none⟩ (.int .u8 kd')).setCell ⟨p, 1, none⟩ v').setCell ⟨p + 1, 0, none⟩ (.int .i64 n')).setCell ⟨p + 1 + 1, 0, none⟩ (.int .i64 e')) p kd' v' n' e' := by
  have n1 : p + 1 ≠ p := by omega
  have n2 : p + 1 + 1 ≠ p := by omega
  have n3 : p ≠ p + 1 := by omega
  have n4 : p + 1 + 1 ≠ p + 1 := by omega
  have n5 : p ≠ p + 1 + 1 := by omega
  have n6 : p + 1 ≠ p + 1 + 1 := by omega
  exact ⟨laysAs_else (laysAs_else (LaysAs.set (cs := [.int .u8 kd', v]) (i := 1) (LaysAs.set (cs := [.int .u8 kd, v]) (i := 0) h.s (.int .u8 kd')) v') (a := ⟨p + 1, 0, none⟩) n1 (.int .i64 n')) (a := ⟨p + 1 + 1, 0, none⟩) n2 (.int .i64 e'),
    laysAs_else (LaysAs.set (cs := [.int .i64 n]) (i := 0) (laysAs_else (laysAs_else h.l (a := ⟨p, 0, none⟩) n3 (.int .u8 kd')) (a := ⟨p, 1, none⟩) n3 v') (.int .i64 n')) (a := ⟨p + 1 + 1, 0, none⟩) n4 (.int .i64 e'),
    LaysAs.set (cs := [.int .i64 e]) (i := 0) (laysAs_else (laysAs_else (laysAs_else h.e (a := ⟨p, 0, none⟩) n5 (.int .u8 kd')) (a := ⟨p, 1, none⟩) n5 v') (a := ⟨p + 1, 0, none⟩) n6 (.int .i64 n')) (.int .i64 e')⟩
/-- The results are written; nothing else. -/
theorem res_rest {W : World} {p B : Nat} {ob : Obj} {kd' n' e' : Int} {v' : Value} (h : LaysAs W B ob) (hB : p + 1 + 1 < B) :
    LaysAs ((((W.setCell ⟨p, 0, none⟩ (.int .u8 kd')).setCell ⟨p, 1, none⟩ v').setCell ⟨p + 1, 0, none⟩ (.int .i64 n')).setCell ⟨p + 1 + 1, 0, none⟩ (.int .i64 e')) B ob :=
  laysAs_else (laysAs_else (laysAs_else (laysAs_else h (by dsimp only; omega) _) (by dsimp only; omega) _) (by dsimp only; omega) _) (by dsimp only; omega) _
/-- What holds when k lines were taken in. -/
structure RdI (w : World) (L : List (List UInt8)) (k : Nat) (W : World) : Prop where
  exts : w.Exts W
  res : ResAt W w.heap.size 0 (.slice none 0 0) 0 0
  ptr : LaysAs W (w.heap.size + 1 + 1 + 1 + 1) (.cells [.pointer (some ⟨w.heap.size + 1 + 1 + 1, 0, none⟩)].toArray 91 (0, 0))
  st : ∃ st, readAll 1 ⟨0, [], false⟩ (L.take k) = .ok st ∧ RdAt (w.heap.size + 1 + 1 + 1) (w.heap.size + 1 + 1 + 1 + 1 + 1 + 1) k st W
/-- What holds when a line was wrong. -/
def RdBad (w : World) (R : (Int × List (List Int)) × Int × Int) (ch : List PanicEntry) (W : World) : Prop :=
  ∃ (n : Nat) (e : Int), ch = [{ v := wrongV n e, recovered := false }] ∧ R = ((0, []), (n : Int), e) ∧ w.Exts W ∧ ResAt W w.heap.size 0 (.slice none 0 0) 0 0

attribute [local go_sem] Oper.semAt_some
set_option maxRecDepth 4000 in
set_option maxHeartbeats 8000000 in
theorem sheet_Read_any (hI : IceFn) (s : ByteArray) (w : World) (hw : LibAt w) :
    Calls Tryz.prog 11 #[.string s] w (ReadIs w (readR s.data.toList)) := by
  obtain ⟨R, hR⟩ : ∃ r, readR s.data.toList = r := ⟨_, rfl⟩
  rw [hR]
  rcases Nat.lt_or_ge 1500 s.size with h15 | h15
  · have hv : R = ((0, []), 0, 9) := hR ▸ readR_long (by rw [tx_len]; exact h15)
    have h15i : (1500 : Int) < (s.size : Int) := by omega
    have HV := Lib.hid hv
    clear hv
    clear hR h15
    refine calls_of_wpF (n := 5) Tryz.func11 rfl ?_
    simp only [Tryz.ntmps11, List.size_toArray, List.length_cons, List.length_nil, Nat.reduceAdd, Nat.reduceSub, Array.replicate_succ, Array.replicate_zero, List.push_toArray, List.append_toArray, List.nil_append, List.cons_append]
    refine wpF_of_wp ?_
    go_wp2_with fail
    exact ⟨.tuple #[.agg #[.int .u8 0, .slice none 0 0], .int .i64 0, .int .i64 9], by simp [results, Tryz.results11, go_sem], ReadIs.none HV.out exq⟩
  have h15i : ¬ (1500 : Int) < (s.size : Int) := by omega
  have h15n : ¬ 1500 < s.data.toList.length := by rw [tx_len]; omega
  have herr := fun (n : Nat) (e : Int) (h : readAll 1 ⟨0, [], false⟩ (cutLines s.data.toList).1 = .error (n, e)) => hR.symm.trans (readR_error h15n h)
  have hends := fun (st : RSt) (h : readAll 1 ⟨0, [], false⟩ (cutLines s.data.toList).1 = .ok st) hT => hR.symm.trans (readR_ends h15n h hT)
  have hdone := fun (st : RSt) (h : readAll 1 ⟨0, [], false⟩ (cutLines s.data.toList).1 = .ok st) hT he => hR.symm.trans (readR_done h15n h hT he)
  have hseq := fun (bT : Nat) (hb : w.heap.size ≤ bT) => sheet_lines_1_pan (5 - 1) bT s w h15 hw hb
  have hcl := cut_len s.data.toList
  rw [tx_len] at hcl
  have HERR := Lib.hid herr
  clear herr
  have HENDS := Lib.hid hends
  clear hends
  have HDONE := Lib.hid hdone
  clear hdone
  have HSEQ := Lib.hid hseq
  clear hseq
  have HCL := Lib.hid hcl
  clear hcl
  have HW := Lib.hid hw
  clear hw
  clear hR h15n
  refine calls_of_wpF (n := 5) Tryz.func11 rfl ?_
  simp only [Tryz.ntmps11, List.size_toArray, List.length_cons, List.length_nil, Nat.reduceAdd, Nat.reduceSub, Array.replicate_succ, Array.replicate_zero, List.push_toArray, List.append_toArray, List.nil_append, List.cons_append]
  refine wpF_seq_wp fun K hK => ?_
  go_wp2_with fail
  refine wpF_seq_wp fun K hK => ?_
  go_wp2_with fail
  refine wpF_seq_wp fun K hK => ?_
  go_wp2_with fail
  refine wpF_seq_wp fun K hK => ?_
  go_wp2_with fail
  refine wpF_seq ?_
  refine wpF_seq_wp fun K hK => ?_
  go_wp2_with (go_at_call 34; refine (sheet_lines_any s _).mono ?_; rintro e w' ⟨rfl, rfl⟩)
  refine wpF_block ?_
  obtain ⟨w1, hw1⟩ : ∃ W, ((((((w.alloc (.cells #[.int .u8 0, .slice none 0 0] 36)).alloc (.cells #[.int .i64 0] 3)).alloc (.cells #[.int .i64 0] 37)).alloc (.cells #[.int .i64 0, .int .u8 0, .slice none 0 0, .bool false] 95)).alloc (.cells #[.pointer (some ⟨w.heap.size + 1 + 1 + 1, 0, none⟩)] 91)).alloc (.cells #[.string s] 9)) = W := ⟨_, rfl⟩
  rw [hw1]
  have hz1 : w1.heap.size = w.heap.size + 1 + 1 + 1 + 1 + 1 + 1 := by rw [← hw1]; simp
  have hE1 : w.Exts w1 := by rw [← hw1]; exact exq
  have hres : ResAt w1 w.heap.size 0 (.slice none 0 0) 0 0 := by
    rw [← hw1]
    exact ⟨(laysAs_size w (.cells #[.int .u8 0, .slice none 0 0] 36) rfl).exts exq, (laysAs_size (w.alloc (.cells #[.int .u8 0, .slice none 0 0] 36)) (.cells #[.int .i64 0] 3) (by simp)).exts exq, (laysAs_size ((w.alloc (.cells #[.int .u8 0, .slice none 0 0] 36)).alloc (.cells #[.int .i64 0] 3)) (.cells #[.int .i64 0] 37) (by simp)).exts exq⟩
  have hrd : LaysAs w1 (w.heap.size + 1 + 1 + 1) (.cells [.int .i64 (0 : Nat), .int .u8 (0 : Nat), .slice none 0 0, .bool false].toArray 95 (0, 0)) := by
    rw [← hw1]
    exact (laysAs_size (((w.alloc (.cells #[.int .u8 0, .slice none 0 0] 36)).alloc (.cells #[.int .i64 0] 3)).alloc (.cells #[.int .i64 0] 37)) (.cells #[.int .i64 0, .int .u8 0, .slice none 0 0, .bool false] 95) (by simp)).exts exq
  have hptr : LaysAs w1 (w.heap.size + 1 + 1 + 1 + 1) (.cells [.pointer (some ⟨w.heap.size + 1 + 1 + 1, 0, none⟩)].toArray 91 (0, 0)) := by
    rw [← hw1]
    exact (laysAs_size ((((w.alloc (.cells #[.int .u8 0, .slice none 0 0] 36)).alloc (.cells #[.int .i64 0] 3)).alloc (.cells #[.int .i64 0] 37)).alloc (.cells #[.int .i64 0, .int .u8 0, .slice none 0 0, .bool false] 95)) (.cells #[.pointer (some ⟨w.heap.size + 1 + 1 + 1, 0, none⟩)] 91) (by simp)).exts exq
  have hbx : LaysAs w1 (w.heap.size + 1 + 1 + 1 + 1 + 1) (.cells #[.string s] 9 (0, 0)) := by
    rw [← hw1]
    exact laysAs_size (((((w.alloc (.cells #[.int .u8 0, .slice none 0 0] 36)).alloc (.cells #[.int .i64 0] 3)).alloc (.cells #[.int .i64 0] 37)).alloc (.cells #[.int .i64 0, .int .u8 0, .slice none 0 0, .bool false] 95)).alloc (.cells #[.pointer (some ⟨w.heap.size + 1 + 1 + 1, 0, none⟩)] 91)) (.cells #[.string s] 9) (by simp)
  clear hw1
  refine wpF_range_pan2 (bT := w.heap.size + 1 + 1 + 1 + 1 + 1) (T := 9) (w0 := w) Tryz.func11 (gf := 71) rfl (enters_of Tryz.func71 (by kernel_rfl) rfl) (e1 := fun x : Nat × ByteArray => .int .i64 (x.1 : Int)) (e2 := fun x : Nat × ByteArray => .string x.2) (fun x => rfl) (HSEQ.out _ (by omega)) hbx
    (RdI w (cutLines s.data.toList).1) (fun _ _ _ => False) (RdBad w R) (fun k W h => h.exts) ?inv (fun c k W l o o' h => h.elim) ?start 6 7 ?assign ?body ?done (fun c k W h => h.elim) ?pan ?fin
  case inv =>
    intro k W W' row h hg hr
    have hr2 : ∀ r, row = some r → r = w.heap.size + 1 + 1 + 1 + 1 + 1 ∨ ∃ o : Obj, W.heap[r]? = some o ∧ o.isCells = false := fun r e => (hr r e).imp id (fun h => h.2)
    obtain ⟨st, h1, h2⟩ := h.st
    exact ⟨exts_turn h.exts hg (fun r e => by rcases hr r e with h | ⟨h, _⟩ <;> omega), h.res.turn (by omega) hg hr2, h.ptr.turn (by omega) hg hr2, st, h1, h2.turn (by omega) (by omega) hg hr2⟩
  case start =>
    exact ⟨hE1, hres, hptr, ⟨0, [], false⟩, rfl, 0, .slice none 0 0, [], rfl, by omega, by simp, hrd, OwnLists.none _ _ (by omega), rfl⟩
  case assign =>
    intro l x W K hK
    dsimp only [Act.put]
    gi_wp2
    exact hK
  case body =>
    intro l k x W hl hx h
    obtain ⟨st, hst, kn, v, rs, hkd, hk4, hrl, hL, hO, hrs⟩ := h.st
    have hkl : k < (cutLines s.data.toList).1.length := by rw [← numL_len (cutLines s.data.toList).1 1]; exact (List.getElem?_eq_some_iff.1 hx).1
    obtain ⟨y, hy⟩ : ∃ y, (cutLines s.data.toList).1[k]? = some y := ⟨_, List.getElem?_eq_getElem hkl⟩
    have hx2 := numL_get _ 1 k y hy
    rw [hx] at hx2
    obtain rfl := Option.some.inj hx2
    have hyz : (⟨y.toArray⟩ : ByteArray).size ≤ 1500 := by rw [← tx_len]; have h2 := (HCL.out.2) y (List.mem_of_getElem? hy); have h3 : (⟨y.toArray⟩ : ByteArray).data.toList = y := rfl; rw [h3]; omega
    have hkn : k < 900 := by
      have h1 := readAll_few hst (by rw [← hrs, List.length_map]; exact hrl)
      rw [List.length_take] at h1
      omega
    obtain ⟨XW, rfl⟩ : ∃ X : Ext w, W = w.ext X := h.exts
    have hres0 := h.res
    have hptr0 := h.ptr
    have a0 := LaysAs.cell h.ptr 0 _ rfl
    have na := Lays.of_cell a0
    have r0 := LaysAs.cell hL 0 _ rfl
    have nr := Lays.of_cell r0
    have fr := laysAs_frz (i := 0) hL
    have hL1 := LaysAs.set (i := 0) hL (.int .i64 ((1 + k : Nat) : Int))
    have hO1 := hO.put (a := ⟨w.heap.size + 1 + 1 + 1, 0, none⟩) (by dsimp only; omega) (.int .i64 ((1 + k : Nat) : Int))
    have hW1 : w.Exts ((w.ext XW).setCell ⟨w.heap.size + 1 + 1 + 1, 0, none⟩ (.int .i64 ((1 + k : Nat) : Int))) := World.Exts.setCell ⟨XW, rfl⟩ (by dsimp only; omega) _
    have htake := reader_take_any ⟨y.toArray⟩ (w.heap.size + 1 + 1 + 1) (w.heap.size + 1 + 1 + 1 + 1 + 1 + 1) (1 + k) kn st.ended v rs w _ HW.out hW1 (by omega) hyz (by omega) hk4 hrl (by omega) hL1 hO1
    have hres1 := hres0.other (a := ⟨w.heap.size + 1 + 1 + 1, 0, none⟩) (by dsimp only; omega) (.int .i64 ((1 + k : Nat) : Int))
    have hptr1 := laysAs_else hptr0 (a := ⟨w.heap.size + 1 + 1 + 1, 0, none⟩) (by dsimp only; omega) (.int .i64 ((1 + k : Nat) : Int))
    rw [show (⟨y.toArray⟩ : ByteArray).data.toList = y from rfl, hrs, show (⟨(kn : Int), st.rows, st.ended⟩ : RSt) = st by rw [← hkd]] at htake
    have hcastk : ((1 + k : Nat) : Int) = 1 + (k : Int) := by omega
    have hkf : ∀ (W' : World), Turns (w.heap.size + 1 + 1 + 1) (w.heap.size + 1 + 1 + 1 + 1 + 1 + 1) ((w.ext XW).setCell ⟨w.heap.size + 1 + 1 + 1, 0, none⟩ (.int .i64 ((1 + k : Nat) : Int))) W' → KeepsFrom w1.heap.size (w.ext XW) W' ∧ (∀ u, LaysAs (w.ext XW) (w.heap.size + 1 + 1 + 1 + 1 + 1) (.cells #[u] 9 (0, 0)) → LaysAs W' (w.heap.size + 1 + 1 + 1 + 1 + 1) (.cells #[u] 9 (0, 0))) ∧ w.Exts W' ∧ ResAt W' w.heap.size 0 (.slice none 0 0) 0 0 ∧ LaysAs W' (w.heap.size + 1 + 1 + 1 + 1) (.cells [.pointer (some ⟨w.heap.size + 1 + 1 + 1, 0, none⟩)].toArray 91 (0, 0)) := fun W' hT =>
      ⟨⟨Nat.le_trans (by simp) hT.size, fun j o hj h1 h2 => hT.keep j o ((World.heap_set_other _ _ _ (by dsimp only; omega)).trans h1) (by omega) (.inr h2)⟩,
       fun u hu => laysAs_turns (laysAs_else hu (a := ⟨w.heap.size + 1 + 1 + 1, 0, none⟩) (by dsimp only; omega) _) (by omega) (by omega) hT,
       hT.exts w hW1 (by omega) (by omega), hres1.turns (by omega) (by omega) hT, laysAs_turns hptr1 (by omega) (by omega) hT⟩
    rw [hcastk] at htake hkf
    dsimp only [Act.put]
    clear hL hO hL1 hO1 hres0 hptr0 hres1 hptr1 hW1 h
    have HTAKE := Lib.hid htake
    clear htake
    have HKF := Lib.hid hkf
    clear hkf
    have HST := Lib.hid hst
    clear hst
    have HY := Lib.hid hy
    clear hy
    gi_wp2
    refine ⟨trivial, (show CallsIn (Fence.wide.inRound l) 2 Tryz.prog 35 _ _ _ from callsIn_wide.2 HTAKE.out).mono ?_⟩
    cases ht : takeL (1 + k) st y with
    | error e =>
      rintro en W' ⟨hT, rfl⟩
      obtain ⟨q1, q2, q3, q4, q5⟩ := HKF.out _ hT
      exact ⟨rfl, q1, 1 + k, e, rfl, HERR.out _ _ (readAll_stop HST.out HY.out ht), q3, q4⟩
    | ok s' =>
      rintro en W' ⟨hT, rfl, v', rs', hL', hO', hrs'⟩
      obtain ⟨q1, q2, q3, q4, q5⟩ := HKF.out _ hT
      have hst' : st = ⟨(kn : Int), st.rows, st.ended⟩ := by rw [← hkd]
      rw [hst'] at ht
      obtain ⟨⟨k', hk1, hk2⟩, hr2⟩ := takeL_few ht hk4 (by rw [← hrs, List.length_map]; exact hrl)
      rw [← hst'] at ht
      gi_wp2
      refine ⟨q1, q2, q3, q4, q5, s', readAll_next HST.out HY.out ht, k', v', rs', hk1, hk2, by rw [← List.length_map (f := Prod.fst), hrs']; exact hr2, ?_, hO', hrs'⟩
      rw [hk1, show 1 + k = k + 1 by omega] at hL'
      exact hL'
  case done =>
    intro W hfn h hD
    obtain ⟨st, hst, hrd⟩ := h.st
    rw [numL_len] at hrd
    rw [numL_len, List.take_length] at hst
    have hT : (cutLines s.data.toList).2 = [] := by
      unfold finL at hfn
      split at hfn
      · rename_i hh; exact hh
      · cases hfn
    obtain ⟨kn, v, rs, hkd, hk4, hrl, hL, hO, hrs⟩ := hrd
    have hnl : (cutLines s.data.toList).1.length ≤ 102 := readAll_few hst (by rw [← hrs, List.length_map]; exact hrl)
    have hE := h.exts
    have hr := h.res
    have hp := h.ptr
    have hbad := fun (he : st.ended = false) => HENDS.out st hst (.inr he)
    have hgood := fun (he : st.ended = true) => HDONE.out st hst hT he
    obtain ⟨nl, hnl2⟩ : ∃ n, (cutLines s.data.toList).1.length = n := ⟨_, rfl⟩
    rw [hnl2] at hL hnl hbad
    show Code.wpF 5 Tryz.prog 11 _ _ _ _
    refine wpF_of_wp ?_
    obtain ⟨q, cv, hqv⟩ := owns_len hO.own
    subst hqv
    obtain ⟨XW, rfl⟩ : ∃ X : Ext w, W = w.ext X := hE
    have a0 := LaysAs.cell hp 0 _ rfl
    have na := Lays.of_cell a0
    have r0 := LaysAs.cell hL 0 _ rfl
    have r1 := LaysAs.cell hL 1 _ rfl
    have r2 := LaysAs.cell hL 2 _ rfl
    have r3 := LaysAs.cell hL 3 _ rfl
    have nr := Lays.of_cell r0
    have fr := laysAs_frz (i := 0) hL
    have HL := Lib.hid hL
    clear hL
    have HO := Lib.hid hO
    clear hO
    have HRES := Lib.hid hr
    clear hr
    have HPTR := Lib.hid hp
    clear hp
    have HDD := Lib.hid hD
    clear hD
    have HBAD := Lib.hid hbad
    clear hbad
    have HGOOD := Lib.hid hgood
    clear hgood
    clear h hst hT hfn hres hrd hptr hbx hE1 hnl2
    go_upto_region 11 with fail
    go_name_world W1 hW1
    have hE1 : w.Exts W1 := by rw [← hW1]; exact World.Exts.setCell ⟨XW, rfl⟩ (by dsimp only; omega) _
    have hL1 : LaysAs W1 (w.heap.size + 1 + 1 + 1) (.cells [.int .i64 ((nl : Int) + 1), .int .u8 kn, .slice q rs.length cv, .bool st.ended].toArray 95 (0, 0)) := by rw [← hW1]; exact LaysAs.set (i := 0) HL.out _
    have hO1 : OwnLists W1 (w.heap.size + 1 + 1 + 1 + 1 + 1 + 1) (.slice q rs.length cv) rs := by rw [← hW1]; exact HO.out.put (by dsimp only; omega) _
    have hr1 : ResAt W1 w.heap.size 0 (.slice none 0 0) 0 0 := by rw [← hW1]; exact HRES.out.other (by dsimp only; omega) _
    have hp1 : LaysAs W1 (w.heap.size + 1 + 1 + 1 + 1) (.cells [.pointer (some ⟨w.heap.size + 1 + 1 + 1, 0, none⟩)].toArray 91 (0, 0)) := by rw [← hW1]; exact laysAs_else HPTR.out (by dsimp only; omega) _
    have hD1 : LaysAs W1 (w.heap.size + 1 + 1 + 1 + 1 + 1 + 1) (.deferred (some [])) := by rw [← hW1, ← hz1]; exact laysAs_else (show LaysAs (w.ext XW) w1.heap.size (.deferred (some [])) from HDD.out) (by dsimp only; omega) _
    have hchk := fun (W : World) (hE : W1.Exts W) => sheet_Check_any hI (kn : Int) rs _ W (hO1.exts hE).lists (by omega) (by omega)
    clear hW1 a0 na r0 r1 r2 r3 nr fr HL HO HRES HPTR HDD
    obtain ⟨en, hen⟩ : ∃ b, st.ended = b := ⟨_, rfl⟩
    rw [hen] at hL1
    have hbad := HBAD.out
    have hgood := HGOOD.out
    rw [hen] at hbad hgood
    have a0 := LaysAs.cell hp1 0 _ rfl
    have na := Lays.of_cell a0
    have r0 := LaysAs.cell hL1 0 _ rfl
    have r1 := LaysAs.cell hL1 1 _ rfl
    have r2 := LaysAs.cell hL1 2 _ rfl
    have r3 := LaysAs.cell hL1 3 _ rfl
    have nr := Lays.of_cell r0
    have HL := Lib.hid hL1
    clear hL1
    have HO := Lib.hid hO1
    clear hO1
    have HRES := Lib.hid hr1
    clear hr1
    have HDD := Lib.hid hD1
    clear hD1
    have HCHK := Lib.hid hchk
    clear hchk
    have HE1 := Lib.hid hE1
    clear hE1
    clear hen hp1 HBAD HGOOD
    cases en
    · have hb := hbad rfl
      have hb2 : R = ((0, []), (nl : Int) + 1, 111) := hb
      have HB := Lib.hid hb2
      clear hb2
      clear hbad hgood hb
      refine wp_region_ext_tail 7 (by kernel_rfl) (by kernel_rfl) ?_
      simp only [List.take_succ_cons, List.take_zero, List.drop_succ_cons, List.drop_zero]
      repeat (go_big_quiet_step (fail))
      refine wpQuiet_nil ?_
      rintro _ ⟨X, rfl⟩
      go_wp2_with (go_at_call 36; refine (place_must_no _ ((nl : Int) + 1) 111 _ (World.Exts.cell exq r0)).mono ?_; rintro e w' ⟨rfl, X2, rfl⟩)
      have hEE : W1.Exts ((W1.ext X).ext X2) := exq
      have hE := HE1.out.trans hEE
      have hr := HRES.out.exts hEE
      have hD := HDD.out.exts hEE
      show LeavesInM Fence.wide 5 Tryz.prog _ _ _ _ _ _
      refine ⟨by simp, .inl ⟨_, _, rfl, run_takeDeferred hD, ?_⟩⟩
      have hg9 := grownBy_putObj' (((W1.ext X).ext X2)) ((w.heap.size + 1 + 1 + 1 + 1 + 1 + 1)) (.deferred none)
      have hr9 := (hr).turn (bT := ((w.heap.size + 1 + 1 + 1 + 1 + 1 + 1))) (by omega) hg9 (fun r e => by cases e; exact .inl rfl)
      have hE9 := exts_turn (hE) hg9 (fun r e => by cases e; omega)
      refine ⟨by simp, .inr ⟨fun h => (by simp [Fence.wide] at h), _, _, 33, #[.pointer (some ⟨w.heap.size, 0, none⟩), .pointer (some ⟨w.heap.size + 1, 0, none⟩), .pointer (some ⟨w.heap.size + 1 + 1, 0, none⟩)], rfl, by simp [go_sem], fun _ _ => trivial, ?_⟩⟩
      refine (read_catch (5 - 1) w.heap.size (((nl : Int) + 1)) (111) _ _ _ _ _ hr9).mono ?_
      rintro en u' w' ⟨rfl, rfl, hres9, hexts9⟩
      have y0 := LaysAs.cell (cs := [.int .u8 0, .slice none 0 0]) hres9.s 0 _ rfl
      have y1 := LaysAs.cell (cs := [.int .u8 0, .slice none 0 0]) hres9.s 1 _ rfl
      have y2 := LaysAs.cell (cs := [.int .i64 (((nl : Int) + 1))]) hres9.l 0 _ rfl
      have y3 := LaysAs.cell (cs := [.int .i64 (111)]) hres9.e 0 _ rfl
      refine ⟨.tuple #[.agg #[.int .u8 0, .slice none 0 0], .int .i64 (((nl : Int) + 1)), .int .i64 (111)], ?_, ReadIs.none (HB.out) (hexts9 w hE9 (Nat.le_refl _))⟩
      simp [results, Tryz.results11, go_sem, y0, y1, y2, y3]
    · have hg := hgood rfl
      clear hbad hgood
      have hfr0 := fun (W : World) (hE : W1.Exts W) => laysAs_frz (i := 0) (HRES.out.exts hE).s
      have hfr1 := fun (W : World) (hE : W1.Exts W) => laysAs_frz (i := 1) (HRES.out.exts hE).s
      obtain ⟨sb, hsb⟩ : ∃ b, sheetB (kn : Int) (rs.map Prod.fst) = b := ⟨_, rfl⟩
      have hck : checkS (kn : Int) (rs.map Prod.fst) = if sb then 0 else 110 := by unfold checkS; rw [hsb]
      rw [hkd, ← hrs, hsb] at hg
      have HCK := Lib.hid hck
      clear hck
      have HG := Lib.hid hg
      clear hg
      have HFR0 := Lib.hid hfr0
      clear hfr0
      have HFR1 := Lib.hid hfr1
      clear hfr1
      clear hsb
      cases sb
      · have hv : checkS (kn : Int) (rs.map Prod.fst) = 110 := HCK.out
        have hg2 : R = ((0, []), 0, 110) := HG.out
        have HV := Lib.hid hv
        clear hv
        have HG2 := Lib.hid hg2
        clear hg2
        clear HG HCK
        refine wp_region_ext_tail 7 (by kernel_rfl) (by kernel_rfl) ?_
        simp only [List.take_succ_cons, List.take_zero, List.drop_succ_cons, List.drop_zero]
        repeat (go_big_quiet_step (fail))
        refine wpQuiet_nil ?_
        rintro _ ⟨X, rfl⟩
        go_upto_region 14 with (first
          | (go_at_call 36; refine (place_must_ok _ _ _).mono ?_; rintro e w' ⟨rfl, X2, rfl⟩)
          | (go_at_call 28; refine (HCHK.out _ exq).mono ?_; rintro e w' ⟨rfl, X3, rfl⟩; rw [HV.out]))
        have hEE : W1.Exts ((((W1.ext X).ext X2).ext X3)) := exq
        have hr := HRES.out.exts hEE
        have s0 := LaysAs.cell (cs := [.int .u8 0, .slice none 0 0]) hr.s 0 _ rfl
        have s1 := LaysAs.cell (cs := [.int .u8 0, .slice none 0 0]) hr.s 1 _ rfl
        have l0 := LaysAs.cell (cs := [.int .i64 0]) hr.l 0 _ rfl
        have e0 := LaysAs.cell (cs := [.int .i64 0]) hr.e 0 _ rfl
        have ns := Lays.of_cell s0
        have nl2 := Lays.of_cell l0
        have ne := Lays.of_cell e0
        have fs0 := laysAs_frz (i := 0) hr.s
        have fs1 := laysAs_frz (i := 1) hr.s
        have fl0 := laysAs_frz (i := 0) hr.l
        have fe0 := laysAs_frz (i := 0) hr.e
        have HR9 := Lib.hid hr
        clear hr
        have HEE := Lib.hid hEE
        clear hEE
        go_wp2_with fail
        have hD9 := res_rest (kd' := 0) (v' := (.slice none 0 0)) (n' := 0) (e' := 110) (p := w.heap.size) (HDD.out.exts HEE.out) (by omega)
        show LeavesInM Fence.wide 5 Tryz.prog _ _ _ _ _ _
        refine ⟨by simp, .inl ⟨_, _, rfl, run_takeDeferred hD9, ?_⟩⟩
        refine ⟨by simp, .inr ⟨fun h => (by simp [Fence.wide] at h), _, _, 33, #[.pointer (some ⟨w.heap.size, 0, none⟩), .pointer (some ⟨w.heap.size + 1, 0, none⟩), .pointer (some ⟨w.heap.size + 1 + 1, 0, none⟩)], rfl, by simp [go_sem], fun _ _ => trivial, ?_⟩⟩
        refine (read_idle (5 - 1) w.heap.size _).mono ?_
        rintro en u' w' ⟨rfl, rfl, rfl⟩
        have hg9 := grownBy_putObj' ((((World.setCell ((((W1.ext X).ext X2).ext X3)) ⟨w.heap.size, 0, none⟩ (.int .u8 (0))).setCell ⟨w.heap.size, 1, none⟩ ((.slice none 0 0))).setCell ⟨w.heap.size + 1, 0, none⟩ (.int .i64 0)).setCell ⟨w.heap.size + 1 + 1, 0, none⟩ (.int .i64 (110))) (w.heap.size + 1 + 1 + 1 + 1 + 1 + 1) (.deferred none)
        have hr9 := (ResAt.store (kd' := 0) (v' := (.slice none 0 0)) (n' := 0) (e' := 110) HR9.out).turn (bT := w.heap.size + 1 + 1 + 1 + 1 + 1 + 1) (by omega) hg9 (fun r e => by cases e; exact .inl rfl)
        have hE9 := exts_turn (World.Exts.setCell (World.Exts.setCell (World.Exts.setCell (World.Exts.setCell (HE1.out.trans HEE.out) (by dsimp only; omega) _) (by dsimp only; omega) _) (by dsimp only; omega) _) (by dsimp only; omega) _) hg9 (fun r e => by cases e; omega)
        have y0 := LaysAs.cell (cs := [.int .u8 (0), (.slice none 0 0)]) hr9.s 0 _ rfl
        have y1 := LaysAs.cell (cs := [.int .u8 (0), (.slice none 0 0)]) hr9.s 1 _ rfl
        have y2 := LaysAs.cell (cs := [.int .i64 0]) hr9.l 0 _ rfl
        have y3 := LaysAs.cell (cs := [.int .i64 (110)]) hr9.e 0 _ rfl
        refine ⟨.tuple #[.agg #[.int .u8 0, .slice none 0 0], .int .i64 0, .int .i64 110], ?_, ReadIs.none HG2.out hE9⟩
        simp [results, Tryz.results11, go_sem, y0, y1, y2, y3]
      · have hv : checkS (kn : Int) (rs.map Prod.fst) = 0 := HCK.out
        have hg2 : R = (((kn : Int), rs.map Prod.fst), 0, 0) := HG.out
        have HV := Lib.hid hv
        clear hv
        have HG2 := Lib.hid hg2
        clear hg2
        clear HG HCK
        refine wp_region_ext_tail 7 (by kernel_rfl) (by kernel_rfl) ?_
        simp only [List.take_succ_cons, List.take_zero, List.drop_succ_cons, List.drop_zero]
        repeat (go_big_quiet_step (fail))
        refine wpQuiet_nil ?_
        rintro _ ⟨X, rfl⟩
        go_upto_region 15 with (first
          | (go_at_call 36; refine (place_must_ok _ _ _).mono ?_; rintro e w' ⟨rfl, X2, rfl⟩)
          | (go_at_call 28; refine (HCHK.out _ exq).mono ?_; rintro e w' ⟨rfl, X3, rfl⟩; rw [HV.out]))
        have hEE : W1.Exts ((((W1.ext X).ext X2).ext X3)) := exq
        have hr := HRES.out.exts hEE
        have s0 := LaysAs.cell (cs := [.int .u8 0, .slice none 0 0]) hr.s 0 _ rfl
        have s1 := LaysAs.cell (cs := [.int .u8 0, .slice none 0 0]) hr.s 1 _ rfl
        have l0 := LaysAs.cell (cs := [.int .i64 0]) hr.l 0 _ rfl
        have e0 := LaysAs.cell (cs := [.int .i64 0]) hr.e 0 _ rfl
        have ns := Lays.of_cell s0
        have nl2 := Lays.of_cell l0
        have ne := Lays.of_cell e0
        have fs0 := laysAs_frz (i := 0) hr.s
        have fs1 := laysAs_frz (i := 1) hr.s
        have fl0 := laysAs_frz (i := 0) hr.l
        have fe0 := laysAs_frz (i := 0) hr.e
        have HR9 := Lib.hid hr
        clear hr
        have HEE := Lib.hid hEE
        clear hEE
        go_wp2_with fail
        have hD9 := res_rest (kd' := (kn : Int)) (v' := (.slice q rs.length cv)) (n' := 0) (e' := 0) (p := w.heap.size) (HDD.out.exts HEE.out) (by omega)
        show LeavesInM Fence.wide 5 Tryz.prog _ _ _ _ _ _
        refine ⟨by simp, .inl ⟨_, _, rfl, run_takeDeferred hD9, ?_⟩⟩
        refine ⟨by simp, .inr ⟨fun h => (by simp [Fence.wide] at h), _, _, 33, #[.pointer (some ⟨w.heap.size, 0, none⟩), .pointer (some ⟨w.heap.size + 1, 0, none⟩), .pointer (some ⟨w.heap.size + 1 + 1, 0, none⟩)], rfl, by simp [go_sem], fun _ _ => trivial, ?_⟩⟩
        refine (read_idle (5 - 1) w.heap.size _).mono ?_
        rintro en u' w' ⟨rfl, rfl, rfl⟩
        have hg9 := grownBy_putObj' ((((World.setCell ((((W1.ext X).ext X2).ext X3)) ⟨w.heap.size, 0, none⟩ (.int .u8 ((kn : Int)))).setCell ⟨w.heap.size, 1, none⟩ ((.slice q rs.length cv))).setCell ⟨w.heap.size + 1, 0, none⟩ (.int .i64 0)).setCell ⟨w.heap.size + 1 + 1, 0, none⟩ (.int .i64 (0))) (w.heap.size + 1 + 1 + 1 + 1 + 1 + 1) (.deferred none)
        have hr9 := (ResAt.store (kd' := (kn : Int)) (v' := (.slice q rs.length cv)) (n' := 0) (e' := 0) HR9.out).turn (bT := w.heap.size + 1 + 1 + 1 + 1 + 1 + 1) (by omega) hg9 (fun r e => by cases e; exact .inl rfl)
        have hE9 := exts_turn (World.Exts.setCell (World.Exts.setCell (World.Exts.setCell (World.Exts.setCell (HE1.out.trans HEE.out) (by dsimp only; omega) _) (by dsimp only; omega) _) (by dsimp only; omega) _) (by dsimp only; omega) _) hg9 (fun r e => by cases e; omega)
        have y0 := LaysAs.cell (cs := [.int .u8 ((kn : Int)), (.slice q rs.length cv)]) hr9.s 0 _ rfl
        have y1 := LaysAs.cell (cs := [.int .u8 ((kn : Int)), (.slice q rs.length cv)]) hr9.s 1 _ rfl
        have y2 := LaysAs.cell (cs := [.int .i64 0]) hr9.l 0 _ rfl
        have y3 := LaysAs.cell (cs := [.int .i64 (0)]) hr9.e 0 _ rfl
        have hls := (((((HO.out.exts HEE.out).put (a := ⟨w.heap.size, 0, none⟩) (by dsimp only; omega) (.int .u8 (kn : Int))).put (a := ⟨w.heap.size, 1, none⟩) (by dsimp only; omega) (.slice q rs.length cv)).put (a := ⟨w.heap.size + 1, 0, none⟩) (by dsimp only; omega) (.int .i64 0)).put (a := ⟨w.heap.size + 1 + 1, 0, none⟩) (by dsimp only; omega) (.int .i64 0)).turn hg9 (fun r e => .inr (by cases e; exact ⟨_, hD9, rfl⟩))
        refine ⟨.tuple #[.agg #[.int .u8 kn, .slice q rs.length cv], .int .i64 0, .int .i64 0], ?_, ?_⟩
        · simp [results, Tryz.results11, go_sem, y0, y1, y2, y3]
        · rw [HG2.out]
          exact ⟨hE9, _, rs, rfl, hls.lists, rfl⟩
  case pan =>
    rintro ch W ⟨n, e, rfl, hRR, hE, hr⟩ hD
    show LeavesInM Fence.wide 5 Tryz.prog _ _ _ _ _ _
    refine ⟨by simp, .inl ⟨_, _, rfl, run_takeDeferred hD, ?_⟩⟩
    have hg9 := grownBy_putObj' (W) (w1.heap.size) (.deferred none)
    have hr9 := (hr).turn (bT := (w1.heap.size)) (by omega) hg9 (fun r e => by cases e; exact .inl rfl)
    have hE9 := exts_turn (hE) hg9 (fun r e => by cases e; omega)
    refine ⟨by simp, .inr ⟨fun h => (by simp [Fence.wide] at h), _, _, 33, #[.pointer (some ⟨w.heap.size, 0, none⟩), .pointer (some ⟨w.heap.size + 1, 0, none⟩), .pointer (some ⟨w.heap.size + 1 + 1, 0, none⟩)], rfl, by simp [go_sem], fun _ _ => trivial, ?_⟩⟩
    refine (read_catch (5 - 1) w.heap.size ((n : Int)) (e) _ _ _ _ _ hr9).mono ?_
    rintro en u' w' ⟨rfl, rfl, hres9, hexts9⟩
    have y0 := LaysAs.cell (cs := [.int .u8 0, .slice none 0 0]) hres9.s 0 _ rfl
    have y1 := LaysAs.cell (cs := [.int .u8 0, .slice none 0 0]) hres9.s 1 _ rfl
    have y2 := LaysAs.cell (cs := [.int .i64 ((n : Int))]) hres9.l 0 _ rfl
    have y3 := LaysAs.cell (cs := [.int .i64 (e)]) hres9.e 0 _ rfl
    refine ⟨.tuple #[.agg #[.int .u8 0, .slice none 0 0], .int .i64 ((n : Int)), .int .i64 (e)], ?_, ReadIs.none (hRR) (hexts9 w hE9 (Nat.le_refl _))⟩
    simp [results, Tryz.results11, go_sem, y0, y1, y2, y3]
  case fin =>
    intro v W hfn h hD
    obtain ⟨st, hst, -⟩ := h.st
    rw [numL_len, List.take_length] at hst
    unfold finL at hfn
    split at hfn
    · cases hfn
    rename_i hT
    injection hfn with hfn
    subst hfn
    have hRR := HENDS.out st hst (.inl hT)
    have hE := h.exts
    have hr := h.res
    show LeavesInM Fence.wide 5 Tryz.prog _ _ _ _ _ _
    refine ⟨by simp, .inl ⟨_, _, rfl, run_takeDeferred hD, ?_⟩⟩
    have hg9 := grownBy_putObj' (W) (w1.heap.size) (.deferred none)
    have hr9 := (hr).turn (bT := (w1.heap.size)) (by omega) hg9 (fun r e => by cases e; exact .inl rfl)
    have hE9 := exts_turn (hE) hg9 (fun r e => by cases e; omega)
    refine ⟨by simp, .inr ⟨fun h => (by simp [Fence.wide] at h), _, _, 33, #[.pointer (some ⟨w.heap.size, 0, none⟩), .pointer (some ⟨w.heap.size + 1, 0, none⟩), .pointer (some ⟨w.heap.size + 1 + 1, 0, none⟩)], rfl, by simp [go_sem], fun _ _ => trivial, ?_⟩⟩
    refine (read_catch (5 - 1) w.heap.size ((((cutLines s.data.toList).1.length + 1 : Nat) : Int)) (111) _ _ _ _ _ hr9).mono ?_
    rintro en u' w' ⟨rfl, rfl, hres9, hexts9⟩
    have y0 := LaysAs.cell (cs := [.int .u8 0, .slice none 0 0]) hres9.s 0 _ rfl
    have y1 := LaysAs.cell (cs := [.int .u8 0, .slice none 0 0]) hres9.s 1 _ rfl
    have y2 := LaysAs.cell (cs := [.int .i64 ((((cutLines s.data.toList).1.length + 1 : Nat) : Int))]) hres9.l 0 _ rfl
    have y3 := LaysAs.cell (cs := [.int .i64 (111)]) hres9.e 0 _ rfl
    refine ⟨.tuple #[.agg #[.int .u8 0, .slice none 0 0], .int .i64 ((((cutLines s.data.toList).1.length + 1 : Nat) : Int)), .int .i64 (111)], ?_, ReadIs.none (hRR) (hexts9 w hE9 (Nat.le_refl _))⟩
    simp [results, Tryz.results11, go_sem, y0, y1, y2, y3]
end Go.Proofs.YtcickafaomfbmaaGreatDoor
