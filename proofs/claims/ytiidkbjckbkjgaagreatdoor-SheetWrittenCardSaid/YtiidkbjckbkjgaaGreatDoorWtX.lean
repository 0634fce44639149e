/-
  Several texts in one: see the heads of its parts.
-/
import Derived.Test.YtiidkbjckbkjgaaGreatDoorVnP
import Derived.Test.YtiidkbjckbkjgaaGreatDoorVeX
import Derived.Test.YtiidkbjckbkjgaaGreatDoorVdT
import Derived.Test.YtiidkbjckbkjgaaGreatDoorYcD
import Derived.Test.YtiidkbjckbkjgaaGreatDoorBt
import Derived.Test.YtiidkbjckbkjgaaGreatDoorSa
import Derived.Test.YtiidkbjckbkjgaaGreatDoorYjT
import Derived.Test.YtiidkbjckbkjgaaGreatDoorVwI
import Derived.Test.YtiidkbjckbkjgaaGreatDoorVjL

/-
  Sheets: what is written is read to the same; what is read is written to the same. Plain laws.
-/
namespace Kr
open Go
set_option linter.unusedSimpArgs false
set_option linter.unusedVariables false

/-- Lines with their check numbers, from line n on. -/
def sealsFrom : Nat → List (List UInt8) → List (List UInt8)
  | _, [] => []
  | n, l :: r => sealT n l :: sealsFrom (n + 1) r
theorem text_seals : ∀ (ls : List (List UInt8)) (n : Nat), textFrom n ls = (sealsFrom n ls).flatMap (· ++ [10])
  | [], _ => rfl
  | l :: r, n => by rw [textFrom, sealsFrom, List.flatMap_cons, text_seals r (n + 1)]; simp
theorem seals_len : ∀ (ls : List (List UInt8)) (n : Nat), (sealsFrom n ls).length = ls.length
  | [], _ => rfl
  | l :: r, n => by rw [sealsFrom, List.length_cons, List.length_cons, seals_len r (n + 1)]
theorem seal_no10 {n : Nat} {l : List UInt8} (h : (10 : UInt8) ∉ l) : (10 : UInt8) ∉ sealT n l := by
  unfold sealT
  intro hm
  rcases List.mem_append.1 hm with hm | hm
  · exact h hm
  · rcases List.mem_cons.1 hm with hm | hm
    · cases hm
    · have := three_digit (sumT_lt n l) 10 hm
      revert this
      decide
theorem seals_no10 : ∀ (ls : List (List UInt8)) (n : Nat), (∀ l ∈ ls, (10 : UInt8) ∉ l) → ∀ l ∈ sealsFrom n ls, (10 : UInt8) ∉ l
  | [], _, _, l, hl => by cases hl
  | x :: r, n, h, l, hl => by
    rw [sealsFrom] at hl
    rcases List.mem_cons.1 hl with rfl | hl
    · exact seal_no10 (h x (List.mem_cons_self ..))
    · exact seals_no10 r (n + 1) (fun y hy => h y (List.mem_cons_of_mem _ hy)) l hl
theorem body_seal (n : Nat) (l : List UInt8) : bodyOf (sealT n l) = l := by
  unfold bodyOf
  rw [seal_len, Nat.add_sub_cancel]
  unfold sealT
  simp
theorem form_seal (n : Nat) (l : List UInt8) : formB (sealT n l) = true := by
  have h1 := seal_len n l
  unfold formB
  rw [h1]
  have h2 : (sealT n l).getD (l.length + 4 - 4) 0 = 32 := by
    rw [Nat.add_sub_cancel]
    unfold sealT
    simp [List.getD_eq_getElem?_getD]
  have h3 : (sealT n l).drop (l.length + 4 - 3) = three (sumT n l) := by
    unfold sealT
    rw [show l.length + 4 - 3 = l.length + 1 by omega]
    simp [List.drop_append]
  rw [h2, h3]
  simp only [decide_true, Bool.true_and, Bool.and_eq_true, decide_eq_true_eq]
  exact ⟨by omega, List.all_eq_true.2 fun y hy => three_digit (sumT_lt n l) y hy⟩
theorem take_seal_ok {n : Nat} {st s : RSt} {b : List UInt8} (he : st.ended = false) (h : midL n st b = some s) : takeL n st (sealT n b) = .ok s := by
  unfold takeL
  rw [he, form_seal, body_seal, h]
  simp
theorem take_parts {n : Nat} {st s : RSt} {l : List UInt8} (h : takeL n st l = .ok s) : st.ended = false ∧ midL n st (bodyOf l) = some s ∧ sealT n (bodyOf l) = l := by
  unfold takeL at h
  cases he : st.ended
  · rw [he] at h
    cases hf : formB l
    · rw [hf] at h; simp at h
    · rw [hf] at h
      cases hm : midL n st (bodyOf l) with
      | none => rw [hm] at h; simp at h
      | some s' =>
        rw [hm] at h
        simp only [Bool.not_true, Bool.or_self, Bool.false_eq_true, if_false] at h
        by_cases hs : sealT n (bodyOf l) = l
        · rw [if_pos hs] at h
          cases h
          exact ⟨rfl, rfl, hs⟩
        · rw [if_neg hs] at h; cases h
  · rw [he] at h; simp at h
theorem take_err {n : Nat} {st : RSt} {l : List UInt8} {e : Int} (h : takeL n st l = .error e) : e ≠ 0 := by
  unfold takeL at h
  split at h
  · cases h; decide
  · split at h
    · cases h; decide
    · split at h
      · cases h
      · cases h; decide
theorem readAll_err : ∀ {ls : List (List UInt8)} {n m : Nat} {st : RSt} {e : Int}, readAll n st ls = .error (m, e) → e ≠ 0
  | [], _, _, _, _, h => by cases h
  | l :: r, n, m, st, e, h => by
    unfold readAll at h
    cases ht : takeL n st l with
    | error e' => rw [ht] at h; cases h; exact take_err ht
    | ok s => rw [ht] at h; exact readAll_err h

/-! ### rows -/
theorem splitC_none {s : List UInt8} (h : (44 : UInt8) ∉ s) : splitC s = [s] := by
  induction s with
  | nil => rfl
  | cons b r ih =>
    have h1 : b ≠ 44 := fun e => h (by rw [e]; exact List.mem_cons_self ..)
    rw [splitC, if_neg h1, ih (fun hm => h (List.mem_cons_of_mem _ hm))]
theorem splitC_app {a s : List UInt8} (h : (44 : UInt8) ∉ a) : splitC (a ++ 44 :: s) = a :: splitC s := by
  induction a with
  | nil => simp [splitC]
  | cons b r ih =>
    have h1 : b ≠ 44 := fun e => h (by rw [e]; exact List.mem_cons_self ..)
    rw [List.cons_append, splitC, if_neg h1, ih (fun hm => h (List.mem_cons_of_mem _ hm))]
theorem join_two (a b : List UInt8) (r : List (List UInt8)) : Lib.join (a :: b :: r) [44] = a ++ 44 :: Lib.join (b :: r) [44] := by
  rw [Lib.join_cons, Lib.join_cons]
  simp [Lib.joinTail]
theorem split_join : ∀ (ps : List (List UInt8)), ps ≠ [] → (∀ p ∈ ps, (44 : UInt8) ∉ p) → splitC (Lib.join ps [44]) = ps
  | [], h, _ => absurd rfl h
  | [a], _, h => by rw [Lib.join_one]; exact splitC_none (h a (List.mem_cons_self ..))
  | a :: b :: r, _, h => by
    rw [join_two, splitC_app (h a (List.mem_cons_self ..)), split_join (b :: r) (by simp) (fun p hp => h p (List.mem_cons_of_mem _ hp))]
theorem join_split (s : List UInt8) : Lib.join (splitC s) [44] = s := by
  induction s with
  | nil => rfl
  | cons b r ih =>
    rw [splitC]
    by_cases hb : b = 44
    · rw [if_pos hb]
      cases hs : splitC r with
      | nil => exact absurd hs (splitC_ne r)
      | cons h t => rw [hs] at ih; rw [join_two, ih, hb]; rfl
    · rw [if_neg hb]
      cases hs : splitC r with
      | nil => exact absurd hs (splitC_ne r)
      | cons h t =>
        rw [hs] at ih
        cases t with
        | nil => rw [Lib.join_one] at ih; dsimp only; rw [Lib.join_one, ih]
        | cons h2 t2 => rw [join_two] at ih; dsimp only; rw [join_two, List.cons_append, ih]
theorem itoa_no {z : Int} (h : 0 ≤ z) (c : UInt8) (hc : c.toNat < 48) : c ∉ Lib.itoa z := fun hm => by
  rw [itoa_pos h] at hm
  have := digits_all _ c hm
  omega
theorem mapM_nums : ∀ {x : List Int}, (∀ z ∈ x, 0 ≤ z ∧ z ≤ 86400000) → (x.map Lib.itoa).mapM numOf = some (x.map Int.toNat)
  | [], _ => rfl
  | z :: r, h => by
    obtain ⟨h0, h1⟩ := h z (List.mem_cons_self ..)
    rw [List.map_cons, mapM_cons_some (b := z.toNat) (numOf_some.2 ⟨by omega, itoa_pos h0⟩), mapM_nums fun y hy => h y (List.mem_cons_of_mem _ hy)]
    rfl
theorem rowOf_text {x : List Int} (h1 : 0 < x.length) (h5 : x.length ≤ 5) (h : ∀ z ∈ x, 0 ≤ z ∧ z ≤ 86400000) : rowOf (rowText x) = some x := by
  unfold rowOf rowText
  rw [split_join _ (by intro e; have := congrArg List.length e; rw [List.length_map] at this; simp at this; subst this; simp at h1) (fun p hp => by
    obtain ⟨z, hz, rfl⟩ := List.mem_map.1 hp
    exact itoa_no (h z hz).1 44 (by decide)), mapM_nums h]
  dsimp only
  rw [if_pos (by rw [List.length_map]; exact h5), List.map_map]
  congr 1
  conv => rhs; rw [← List.map_id x]
  refine List.map_congr_left fun z hz => ?_
  have := (h z hz).1
  simp
  omega
theorem mapM_back : ∀ {ps : List (List UInt8)} {ns : List Nat}, ps.mapM numOf = some ns → (ns.map fun n : Nat => Lib.itoa (n : Int)) = ps
  | [], ns, h => by cases h; rfl
  | p :: r, ns, h => by
    cases hp : numOf p with
    | none => rw [mapM_cons_none hp] at h; cases h
    | some n =>
      rw [mapM_cons_some hp] at h
      cases hr : r.mapM numOf with
      | none => rw [hr] at h; cases h
      | some ms =>
        rw [hr] at h
        cases h
        rw [List.map_cons, mapM_back hr, itoa_nat, ← (numOf_some.1 hp).2]
theorem text_rowOf {s : List UInt8} {x : List Int} (h : rowOf s = some x) : rowText x = s := by
  unfold rowOf at h
  cases hm : (splitC s).mapM numOf with
  | none => rw [hm] at h; cases h
  | some ns =>
    rw [hm] at h
    dsimp only at h
    split at h
    · cases h
      unfold rowText
      rw [List.map_map]
      have := mapM_back hm
      rw [show ((ns.map (Lib.itoa ∘ fun n : Nat => (n : Int)))) = splitC s from this, join_split]
    · cases h
theorem rowText_head {x : List Int} (h1 : 0 < x.length) (h : ∀ z ∈ x, 0 ≤ z ∧ z ≤ 86400000) : endW.isPrefixOf (rowText x) = false := by
  match x, h1 with
  | z :: r, _ =>
    have hz := (h z (List.mem_cons_self ..)).1
    unfold rowText
    rw [List.map_cons, Lib.join_cons]
    have hne : Lib.itoa z ≠ [] := by rw [itoa_pos hz]; exact digits_ne _
    have hno : (101 : UInt8) ∉ Lib.itoa z := fun hm => by
      rw [itoa_pos hz] at hm
      have h2 := (digits_all _ _ hm).2
      revert h2
      decide
    cases hs : Lib.itoa z with
    | nil => exact absurd hs hne
    | cons b t =>
      rw [hs] at hno
      have hb : b ≠ 101 := fun e => hno (by rw [e]; exact List.mem_cons_self ..)
      unfold endW
      simp only [List.cons_append, List.isPrefixOf, Bool.and_eq_false_iff]
      left
      exact beq_eq_false_iff_ne.2 (fun e => hb e.symm)
theorem rowText_no10 {x : List Int} (h : ∀ z ∈ x, 0 ≤ z ∧ z ≤ 86400000) : (10 : UInt8) ∉ rowText x := by
  unfold rowText
  induction x with
  | nil => intro hm; cases hm
  | cons z r ih =>
    have hz := itoa_no (h z (List.mem_cons_self ..)).1 10 (by decide)
    cases r with
    | nil => rw [List.map_cons, List.map_nil, Lib.join_one]; exact hz
    | cons y r =>
      rw [List.map_cons, List.map_cons, join_two]
      intro hm
      rcases List.mem_append.1 hm with hm | hm
      · exact hz hm
      · rcases List.mem_cons.1 hm with hm | hm
        · cases hm
        · exact ih (fun u hu => h u (List.mem_cons_of_mem _ hu)) hm

/-! ### what is read is written to the same -/
theorem inb_le' {a b z : Int} (h : inb a b z = true) : a ≤ z ∧ z ≤ b := by unfold inb at h; simpa using h
theorem mid_back {n : Nat} {st s : RSt} {b : List UInt8} (hn : n ≠ 1) (h : midL n st b = some s) : (s = { st with ended := true } ∧ b = endW ++ Lib.itoa st.rows.length) ∨ (∃ x, s = { st with rows := st.rows ++ [x] } ∧ b = rowText x) := by
  unfold midL at h
  rw [if_neg hn] at h
  split at h
  · rename_i hp
    split at h
    · rename_i hd
      cases h
      left
      refine ⟨rfl, ?_⟩
      obtain ⟨t, ht⟩ := List.isPrefixOf_iff_prefix.1 hp
      subst ht
      have h4 : (endW ++ t).drop 4 = t := rfl
      rw [h4] at hd
      rw [hd]
    · cases h
  · cases hr : rowOf b with
    | none => rw [hr] at h; cases h
    | some x =>
      rw [hr] at h
      dsimp only at h
      split at h
      · cases h
        exact .inr ⟨x, rfl, (text_rowOf hr).symm⟩
      · cases h
theorem readAll_ended {n : Nat} {st st' : RSt} {ls : List (List UInt8)} (he : st.ended = true) (h : readAll n st ls = .ok st') : ls = [] ∧ st' = st := by
  cases ls with
  | nil => cases h; exact ⟨rfl, rfl⟩
  | cons l r =>
    unfold readAll at h
    cases ht : takeL n st l with
    | error e => rw [ht] at h; cases h
    | ok s =>
      have := (take_parts ht).1
      rw [he] at this
      cases this
theorem readAll_back : ∀ {ls : List (List UInt8)} {n : Nat} {st st' : RSt}, 2 ≤ n → st.ended = false → readAll n st ls = .ok st' → st'.ended = true →
    ∃ more, st' = ⟨st.kd, st.rows ++ more, true⟩ ∧ ls = sealsFrom n (more.map rowText ++ [endW ++ Lib.itoa (st.rows ++ more).length])
  | [], _, _, _, _, he, h, he' => by cases h; rw [he] at he'; cases he'
  | l :: r, n, st, st', hn, he, h, he' => by
    unfold readAll at h
    cases ht : takeL n st l with
    | error e => rw [ht] at h; cases h
    | ok s =>
      rw [ht] at h
      dsimp only at h
      obtain ⟨_, hm, hs⟩ := take_parts ht
      rcases mid_back (by omega) hm with ⟨rfl, hb⟩ | ⟨x, rfl, hb⟩
      · obtain ⟨rfl, rfl⟩ := readAll_ended rfl h
        refine ⟨[], by simp, ?_⟩
        rw [List.map_nil, List.nil_append, List.append_nil, ← hb, sealsFrom, sealsFrom, hs]
      · obtain ⟨more, e1, e2⟩ := readAll_back (st := { st with rows := st.rows ++ [x] }) (by omega : 2 ≤ n + 1) he h he'
        refine ⟨x :: more, ?_, ?_⟩
        · rw [e1]; simp
        · rw [e2, List.map_cons, List.cons_append, sealsFrom, ← hb, hs]
          simp
theorem kind_word {b : List UInt8} (h : kindOf b ≠ 0) : b = wordOf (kindOf b) := by
  unfold kindOf at h ⊢
  split
  · rename_i h1; exact h1
  split
  · rename_i h1; exact h1
  split
  · rename_i h1; exact h1
  split
  · rename_i h1; exact h1
  · rename_i h1 h2 h3 h4
    rw [if_neg h1, if_neg h2, if_neg h3, if_neg h4] at h
    exact absurd rfl h
theorem read_write {t : List UInt8} {kd i : Int} {rows : List (List Int)} (h : readR t = ((kd, rows), i, 0)) : i = 0 ∧ sheetB kd rows = true ∧ writeR kd rows = (t, 0) := by
  unfold readR at h
  by_cases hl : 1500 < t.length
  · rw [if_pos hl] at h; simp at h
  rw [if_neg hl] at h
  cases hr : readAll 1 ⟨0, [], false⟩ (cutLines t).1 with
  | error ne =>
    obtain ⟨n, e⟩ := ne
    rw [hr] at h
    have := readAll_err hr
    simp at h
    exact absurd h.2.2 this
  | ok st =>
    rw [hr] at h
    dsimp only at h
    by_cases hc : (cutLines t).2 ≠ [] ∨ st.ended = false
    · rw [if_pos hc] at h; simp at h
    rw [if_neg hc] at h
    have hc1 : (cutLines t).2 = [] := Classical.byContradiction fun e => hc (.inl e)
    have hc2 : st.ended = true := by cases he : st.ended with
      | true => rfl
      | false => exact absurd (.inr he) hc
    cases hb : sheetB st.kd st.rows
    · rw [hb] at h; simp at h
    rw [hb] at h
    simp only [if_true, Prod.mk.injEq] at h
    obtain ⟨⟨rfl, rfl⟩, rfl, _⟩ := h
    refine ⟨rfl, hb, ?_⟩
    have hj := cut_join t
    rw [hc1, List.append_nil] at hj
    cases hls : (cutLines t).1 with
    | nil => rw [hls] at hr; cases hr; cases hc2
    | cons l r =>
      rw [hls] at hr
      unfold readAll at hr
      cases ht : takeL 1 ⟨0, [], false⟩ l with
      | error e => rw [ht] at hr; cases hr
      | ok s =>
        rw [ht] at hr
        obtain ⟨_, hm, hs⟩ := take_parts ht
        unfold midL at hm
        rw [if_pos rfl] at hm
        by_cases hk : kindOf (bodyOf l) = 0
        · rw [if_pos hk] at hm; cases hm
        rw [if_neg hk] at hm
        cases hm
        obtain ⟨more, e1, e2⟩ := readAll_back (by omega : 2 ≤ 1 + 1) rfl hr hc2
        have hlines : sealsFrom 1 (linesOf st.kd st.rows) = l :: r := by
          rw [e1]
          dsimp only
          unfold linesOf
          rw [sealsFrom, ← kind_word hk, hs, e2]
          simp
        unfold writeR
        rw [hb, if_pos rfl, text_seals, hlines, ← hls, hj, if_neg hl]

/-! ### what is written is read to the same -/
theorem readAll_rows (kd : Int) (tail : List (List UInt8)) : ∀ (rows done : List (List Int)) (n : Nat), 2 ≤ n → (∀ x ∈ rows, 0 < x.length ∧ x.length ≤ 5 ∧ ∀ z ∈ x, 0 ≤ z ∧ z ≤ 86400000) → done.length + rows.length ≤ 100 →
    readAll n ⟨kd, done, false⟩ (sealsFrom n (rows.map rowText ++ tail)) = readAll (n + rows.length) ⟨kd, done ++ rows, false⟩ (sealsFrom (n + rows.length) tail)
  | [], done, n, _, _, _ => by simp
  | x :: r, done, n, hn, h, hl => by
    obtain ⟨h1, h5, hz⟩ := h x (List.mem_cons_self ..)
    rw [List.length_cons] at hl
    have hm : midL n ⟨kd, done, false⟩ (rowText x) = some ⟨kd, done ++ [x], false⟩ := by
      unfold midL
      rw [if_neg (by omega), rowText_head h1 hz, rowOf_text h1 h5 hz]
      simp
      omega
    rw [List.map_cons, List.cons_append, sealsFrom, readAll, take_seal_ok rfl hm]
    dsimp only
    rw [readAll_rows kd tail r (done ++ [x]) (n + 1) (by omega) (fun y hy => h y (List.mem_cons_of_mem _ hy)) (by simp; omega)]
    simp [Nat.add_assoc, Nat.add_comm 1]
theorem mid_end_ok (n : Nat) (hn : 2 ≤ n) (kd : Int) (rows : List (List Int)) : midL n ⟨kd, rows, false⟩ (endW ++ Lib.itoa rows.length) = some ⟨kd, rows, true⟩ := by
  unfold midL
  have hp : endW.isPrefixOf (endW ++ Lib.itoa rows.length) = true := List.isPrefixOf_iff_prefix.2 ⟨_, rfl⟩
  have hd : (endW ++ Lib.itoa (rows.length : Int)).drop 4 = Lib.itoa rows.length := rfl
  rw [if_neg (by omega), if_pos hp, if_pos hd]
theorem kind_of_word {kd : Int} (h : inb 1 4 kd = true) : kindOf (wordOf kd) = kd ∧ (10 : UInt8) ∉ wordOf kd := by
  have h1 := inb_le' h
  have : kd = 1 ∨ kd = 2 ∨ kd = 3 ∨ kd = 4 := by omega
  rcases this with rfl | rfl | rfl | rfl <;> decide
theorem ice_few : ∀ (l : List (List Int)) (i : Nat) (last : List Int), rowsOk 3 i last l = true → (i ≠ 0 → (0 ≤ nth last 0 ∧ nth last 0 ≤ 7) ∧ 0 ≤ nth last 1 ∧ nth last 1 ≤ 11) → (l.length : Int) + (if i = 0 then 0 else nth last 0 * 12 + nth last 1 + 1) ≤ 96
  | [], i, last, _, h => by
    by_cases h0 : i = 0
    · simp [h0]
    · have := h h0
      simp [h0]
      omega
  | x :: r, i, last, hr, h => by
    unfold rowsOk at hr
    simp only [Bool.and_eq_true] at hr
    obtain ⟨⟨_, hx⟩, hr⟩ := hr
    have hx2 : iceRow i x last = true := hx
    unfold iceRow at hx2
    simp only [Bool.and_eq_true, Bool.or_eq_true, decide_eq_true_eq] at hx2
    obtain ⟨⟨⟨⟨⟨⟨b0, b1⟩, _⟩, _⟩, _⟩, _⟩, hs⟩ := hx2
    have b0 := inb_le' b0
    have b1 := inb_le' b1
    have ih := ice_few r (i + 1) x hr (fun _ => ⟨⟨by omega, by omega⟩, by omega, by omega⟩)
    rw [if_neg (by omega)] at ih
    rw [List.length_cons]
    by_cases h0 : i = 0
    · rw [if_pos h0]; push_cast; omega
    · rw [if_neg h0]
      have hl := h h0
      have hs2 := hs.resolve_left h0
      unfold shLess at hs2
      simp only [Bool.or_eq_true, Bool.and_eq_true, decide_eq_true_eq] at hs2
      push_cast
      omega
theorem rows_few {kd : Int} {rows : List (List Int)} (hb : sheetB kd rows = true) : rows.length ≤ 96 := by
  unfold sheetB at hb
  simp only [Bool.and_eq_true] at hb
  obtain ⟨hk, hm, hr, _⟩ := hb
  have h1 := inb_le' hk
  have : kd = 1 ∨ kd = 2 ∨ kd = 3 ∨ kd = 4 := by omega
  rcases this with rfl | rfl | rfl | rfl
  · unfold manyOk at hm; simp at hm; omega
  · unfold manyOk at hm; simp at hm; omega
  · have := ice_few rows 0 [] hr (fun h => absurd rfl h)
    simp at this
    omega
  · unfold manyOk at hm; simp at hm; omega
theorem rows_pos {kd : Int} : ∀ {l : List (List Int)} {i : Nat} {last : List Int}, rowsOk kd i last l = true → ∀ x ∈ l, 0 < x.length
  | [], _, _, _, x, hx => by cases hx
  | y :: r, i, last, h, x, hx => by
    unfold rowsOk at h
    simp only [Bool.and_eq_true, decide_eq_true_eq] at h
    rcases List.mem_cons.1 hx with rfl | hx
    · rw [h.1.1]; unfold colsOf; split <;> decide
    · exact rows_pos h.2 x hx
theorem lines_no10 {kd : Int} {rows : List (List Int)} (hk : inb 1 4 kd = true) (h : ∀ x ∈ rows, x.length ≤ 5 ∧ ∀ z ∈ x, 0 ≤ z ∧ z ≤ 86400000) : ∀ l ∈ linesOf kd rows, (10 : UInt8) ∉ l := by
  intro l hl
  unfold linesOf at hl
  rcases List.mem_cons.1 hl with rfl | hl
  · exact (kind_of_word hk).2
  · rcases List.mem_append.1 hl with hl | hl
    · obtain ⟨x, hx, rfl⟩ := List.mem_map.1 hl
      exact rowText_no10 (h x hx).2
    · obtain rfl := List.mem_singleton.1 hl
      intro hm
      rcases List.mem_append.1 hm with hm | hm
      · revert hm; decide
      · exact itoa_no (by omega) 10 (by decide) hm
theorem count_lines : ∀ (ls : List (List UInt8)), (∀ l ∈ ls, (10 : UInt8) ∉ l) → (ls.flatMap (· ++ [10])).count 10 = ls.length
  | [], _ => rfl
  | l :: r, h => by
    rw [List.flatMap_cons, List.count_append, List.count_append, List.count_eq_zero.2 (h l (List.mem_cons_self ..)), count_lines r fun y hy => h y (List.mem_cons_of_mem _ hy), List.length_cons]
    simp
    omega
theorem write_read {kd : Int} {rows : List (List Int)} (hb : sheetB kd rows = true) (hl : (textFrom 1 (linesOf kd rows)).length ≤ 1500) :
    readR (textFrom 1 (linesOf kd rows)) = ((kd, rows), 0, 0) ∧ (textFrom 1 (linesOf kd rows)).count 10 = rows.length + 2 := by
  have hfew := rows_few hb
  have hnum := sheetB_nums hb (by omega)
  have hb2 := hb
  unfold sheetB at hb2
  simp only [Bool.and_eq_true] at hb2
  obtain ⟨hk, _, hr, _⟩ := hb2
  have hpos := rows_pos hr
  have hno := seals_no10 (linesOf kd rows) 1 (lines_no10 hk hnum)
  have hcut := cut_of_lines _ hno
  have hcnt := count_lines _ hno
  rw [← text_seals] at hcut hcnt
  refine ⟨?_, by rw [hcnt, seals_len, linesOf]; simp⟩
  have hall : readAll 1 ⟨0, [], false⟩ (sealsFrom 1 (linesOf kd rows)) = .ok ⟨kd, rows, true⟩ := by
    have hm : midL 1 ⟨0, [], false⟩ (wordOf kd) = some ⟨kd, [], false⟩ := by
      unfold midL
      have hkd := inb_le' hk
      rw [if_pos rfl, (kind_of_word hk).1, if_neg (by omega)]
    unfold linesOf
    rw [sealsFrom, readAll, take_seal_ok rfl hm]
    dsimp only
    rw [readAll_rows kd _ rows [] 2 (by omega) (fun x hx => ⟨hpos x hx, hnum x hx⟩) (by simp; omega), List.nil_append, sealsFrom, readAll, take_seal_ok rfl (mid_end_ok _ (by omega) kd rows)]
    rfl
  unfold readR
  rw [if_neg (by omega), hcut]
  dsimp only
  rw [hall]
  dsimp only
  rw [if_neg (by simp), if_pos hb]
end Kr

/-
  Walks of the laws' package of sheets: sum, ready, ends.
-/
namespace Go.Proofs.YtiidkbjckbkjgaaGreatDoor
open Go.RowKit Kr
set_option linter.unusedSimpArgs false
set_option linter.unusedVariables false

theorem l11_sum_any (n : Int) (s : ByteArray) (x : Int) (w : World) (h : sumR n s.data.toList = (x, 0)) :
    Calls Tryz.prog 49 #[.int .i64 n, .string s, .int .i64 x] w fun e w' => e = .returned (.bool true) ∧ w.Exts w' := by
  have hs := fun (W : World) => sheet_Sum_any n s W
  rw [h] at hs
  have HS := Lib.hid hs
  clear hs
  clear h
  go_enter Tryz.func49, Tryz.ntmps49
  go_wp2_with (go_at_call 7; refine (HS.out _).mono ?_; rintro e w' ⟨rfl, X2, rfl⟩)
  go_ret
  exact ⟨rfl, exq⟩

theorem l11_ready_any (kd : Int) (ps : List (List Int × Value)) (v : Value) (w : World) (h : ListsAt w v ps) (hc : ColsAt w) (hk : 0 ≤ kd ∧ kd ≤ 255) :
    Calls Tryz.prog 21 #[.agg #[.int .u8 kd, v]] w fun e w' => e = .returned (.bool (!greatS (ps.map Prod.fst) && sheetB kd (ps.map Prod.fst))) ∧ w.Exts w' := by
  obtain ⟨q, cap, hv⟩ := h.row.len
  subst hv
  have hgr := fun (W : World) (hE : w.Exts W) => r11_Great_any kd ps _ W (h.mono hE)
  cases hg : greatS (ps.map Prod.fst)
  · rw [hg] at hgr
    have hl := (greatS_false hg).1
    rw [List.length_map] at hl
    have hsh := fun (W : World) (hE : w.Exts W) => r11_Sheet_any kd ps _ W (h.mono hE) (by omega) (hc.mono hE) hk
    have HGR := Lib.hid hgr
    clear hgr
    have HSH := Lib.hid hsh
    clear hsh
    clear h hc hg
    go_enter Tryz.func21, Tryz.ntmps21
    go_wp2_with (first | (go_at_call 5; refine (HGR.out _ exq).mono ?_; rintro e w' ⟨rfl, X2, rfl⟩) | (go_at_call 20; refine (HSH.out _ exq).mono ?_; rintro e w' ⟨rfl, X3, rfl⟩))
    go_ret
    exact ⟨by simp, exq⟩
  · rw [hg] at hgr
    have HGR := Lib.hid hgr
    clear hgr
    clear h hc hg
    go_enter Tryz.func21, Tryz.ntmps21
    go_wp2_with (go_at_call 5; refine (HGR.out _ exq).mono ?_; rintro e w' ⟨rfl, X2, rfl⟩)
    go_ret
    exact ⟨by simp, exq⟩

theorem count_step {l : List UInt8} {k : Nat} {y : UInt8} (h : l[k]? = some y) : (l.take (k + 1)).count 10 = (l.take k).count 10 + if y = 10 then 1 else 0 := by
  rw [List.take_add_one, h, Option.toList_some, List.count_append]
  by_cases hy : y = 10
  · subst hy; simp
  · simp [hy]

set_option maxHeartbeats 2000000 in
theorem l11_ends_any (s : ByteArray) (w : World) (hs : s.size ≤ 5000) :
    Calls Tryz.prog 22 #[.string s] w fun e w' => (∃ q c, e = .returned (.slice q (s.data.toList.count 10) c)) ∧ w.Exts w' := by
  obtain ⟨R, hR⟩ : ∃ r, s.data.toList.count 10 = r := ⟨_, rfl⟩
  rw [hR]
  have HR := Lib.hid hR
  clear hR
  go_enter Tryz.func22, Tryz.ntmps22
  go_wp2_with fail
  go_loopw [3, 4, 7] (fun row _ i wr => ∃ (k : Nat) (l : List Int), k ≤ s.size ∧ i = .int .i64 k ∧ Hid (l.length = (s.data.toList.take k).count 10) ∧ l.length ≤ k ∧ Hid (wr.ownsRow w.heap.size 3 1 row l.length (l.flatMap fun x => [.int .i64 x])) ∧ w.Exts wr) (fun _ _ i _ => s.size - (intOf i).toNat)
  case atStart => exact ⟨0, [], Nat.zero_le _, rfl, Lib.hid (by simp), by simp, Lib.hid (World.ownsRow_nil _ _ _ _), World.Exts.refl _⟩
  case round =>
    obtain ⟨k, l, hk, rfl, hl, hlk, hown, X3, rfl⟩ := hrel
    obtain ⟨nl, hnl⟩ : ∃ t, l.length = t := ⟨_, rfl⟩
    have hown2 := hown.out
    rw [hnl] at hown2 hlk
    have hl2 := hl.out
    rw [hnl] at hl2
    obtain ⟨qv, cv, hv⟩ := owns_len hown2
    subst hv
    have HO2 := Lib.hid hown2
    clear hown2
    have HNL := Lib.hid hnl
    clear hnl
    clear hl hown
    rcases Nat.lt_or_ge k s.size with hlt | hge
    · have w1 : (k : Int) < (s.size : Int) := by omega
      have gy := tx_get hlt
      obtain ⟨y, ey⟩ : ∃ y, s[k]'hlt = y := ⟨_, rfl⟩
      rw [ey] at gy
      have hst := count_step gy
      rw [← hl2] at hst
      by_cases hy : y = 10
      · subst hy
        rw [if_pos rfl] at hst
        have HST := Lib.hid hst
        clear hst
        clear hl2 gy
        go_wp2_with (at_builtin; refine wpList_append1W (.tmp 14) (.tmp 16) elem_int rfl rfl rfl (ownsRow_exts HO2.out exq) [.int .i64 (k : Int)] _ (by simp) rfl rfl ?j1 ?j2 ?j4 ?j3 ?_)
        case j1 => intro u hu; simp at hu; subst hu; rfl
        case j2 => omega
        try (case j4 => decide)
        case j3 => exact World.Exts.size exq
        intro v' w' hown' happ
        have hE8 := happ.exts w exq (Nat.le_refl _)
        have HO3 := Lib.hid hown'
        clear hown'
        have HE8 := Lib.hid hE8
        clear hE8
        clear happ
        go_wp2_with fail
        go_roundw
        case rel => exact ⟨k + 1, l ++ [(k : Int)], by omega, by go_num, Lib.hid (by rw [List.length_append, HNL.out, HST.out]; rfl), by rw [List.length_append, HNL.out]; simp; omega, Lib.hid (by rw [List.length_append, HNL.out, List.flatMap_append]; exact HO3.out), HE8.out⟩
        case measure => simp [intOf]; omega
      · rw [if_neg hy] at hst
        have y1 : ¬ ((y.toNat : Nat) : Int) = 10 := fun e => hy (UInt8.toNat.inj (by have : (10 : UInt8).toNat = 10 := rfl; omega))
        have y2 : (((y.toNat : Nat) : Int) == 10) = false := by rw [beq_eq_false_iff_ne]; exact y1
        have HST := Lib.hid hst
        clear hst
        clear hl2 gy
        go_wp2_with fail
        go_roundw
        case rel => exact ⟨k + 1, l, by omega, by go_num, Lib.hid (by rw [HNL.out, HST.out]; rfl), by rw [HNL.out]; omega, Lib.hid (by rw [HNL.out]; exact ownsRow_exts HO2.out exq), exq⟩
        case measure => simp [intOf]; omega
    · have w1 : ¬ (k : Int) < (s.size : Int) := by omega
      have hfin : nl = R := by rw [← HR.out, hl2, List.take_of_length_le (by rw [tx_len]; omega)]
      subst hfin
      clear hl2
      go_wp2_with fail
      go_ret
      exact ⟨⟨qv, cv, rfl⟩, exq⟩
end Go.Proofs.YtiidkbjckbkjgaaGreatDoor

/-
  The law SheetWritten: its walk; the laws' alive.
-/
namespace Kr
theorem write_empty : textFrom 1 (linesOf 2 []) = [115, 116, 97, 114, 116, 32, 49, 51, 57, 10, 101, 110, 100, 32, 48, 32, 50, 51, 50, 10] := by
  have h0 : Go.Lib.itoa (([] : List (List Int)).length : Int) = [48] := by
    rw [itoa_nat]
    exact digits_one (by decide)
  unfold linesOf
  rw [h0]
  decide +kernel
theorem write_none : writeR 2 [] = ([115, 116, 97, 114, 116, 32, 49, 51, 57, 10, 101, 110, 100, 32, 48, 32, 50, 51, 50, 10], 0) := by
  unfold writeR
  rw [write_empty]
  decide +kernel
theorem read_none : readR [115, 116, 97, 114, 116, 32, 49, 51, 57, 10, 101, 110, 100, 32, 48, 32, 50, 51, 50, 10] = ((2, []), 0, 0) := by
  have h := (write_read (kd := 2) (rows := []) (by decide +kernel) (by rw [write_empty]; decide +kernel)).1
  rw [write_empty] at h
  exact h
theorem repair_one : repairR [114, 63, 100, 101, 32, 48, 48, 55, 10] = (([114, 105, 100, 101, 32, 48, 48, 55, 10], [1]), 0) := by decide +kernel
end Kr
namespace Go.Proofs.YtiidkbjckbkjgaaGreatDoor
open Go.RowKit Kr
set_option linter.unusedSimpArgs false
set_option linter.unusedVariables false

set_option maxRecDepth 4000 in
set_option maxHeartbeats 4000000 in
theorem l11_alive_any (w : World) (hw : LibAt w) : Calls Tryz.prog 19 #[] w fun e w' => e = .returned (.bool true) ∧ w.Exts w' := by
  have hwr : ∀ W : World, w.Exts W → Calls Tryz.prog 9 #[.agg #[.int .u8 2, .slice none 0 0]] W fun e w' => e = .returned (.tuple #[.string ⟨#[115, 116, 97, 114, 116, 32, 49, 51, 57, 10, 101, 110, 100, 32, 48, 32, 50, 51, 50, 10]⟩, .int .i64 0]) ∧ W.Exts w' := fun W hE => by
    have h := sheet_Write_any ice_fn 2 [] (.slice none 0 0) W (lists_none W) (by simp) (by decide) (hw.mono hE)
    rw [List.map_nil, write_none] at h
    exact h.mono fun e w' h2 => h2.det
  have hrd : ∀ W : World, w.Exts W → Calls Tryz.prog 13 #[.string ⟨#[115, 116, 97, 114, 116, 32, 49, 51, 57, 10, 101, 110, 100, 32, 48, 32, 50, 51, 50, 10]⟩] W fun e w' => ∃ q c, e = .returned (.tuple #[.agg #[.int .u8 2, .slice q 0 c], .int .i64 0, .int .i64 0]) ∧ W.Exts w' := fun W hE => by
    have h := sheet_Read_any ice_fn ⟨#[115, 116, 97, 114, 116, 32, 49, 51, 57, 10, 101, 110, 100, 32, 48, 32, 50, 51, 50, 10]⟩ W (hw.mono hE)
    rw [show (⟨#[115, 116, 97, 114, 116, 32, 49, 51, 57, 10, 101, 110, 100, 32, 48, 32, 50, 51, 50, 10]⟩ : ByteArray).data.toList = [115, 116, 97, 114, 116, 32, 49, 51, 57, 10, 101, 110, 100, 32, 48, 32, 50, 51, 50, 10] from rfl, read_none] at h
    refine h.mono fun e w' h2 => ?_
    obtain ⟨q, c, ps, rfl, _, hm, hE2⟩ := h2.det
    obtain rfl : ps = [] := List.map_eq_nil_iff.1 hm
    exact ⟨q, c, rfl, hE2⟩
  have hrp : ∀ W : World, w.Exts W → Calls Tryz.prog 15 #[.string ⟨#[114, 63, 100, 101, 32, 48, 48, 55, 10]⟩] W fun e w' => ∃ q c, e = .returned (.tuple #[.string ⟨#[114, 105, 100, 101, 32, 48, 48, 55, 10]⟩, .slice q 1 c, .int .i64 0]) ∧ IsRow (fun x : Int => [.int .i64 x]) 1 w' (.slice q 1 c) [1] ∧ W.Exts w' := fun W hE => by
    have h := sheet_Repair_any ⟨#[114, 63, 100, 101, 32, 48, 48, 55, 10]⟩ W (hw.mono hE)
    rw [show (⟨#[114, 63, 100, 101, 32, 48, 48, 55, 10]⟩ : ByteArray).data.toList = [114, 63, 100, 101, 32, 48, 48, 55, 10] from rfl, repair_one] at h
    exact h.mono fun e w' h2 => h2.det
  have hs1 := fun (W : World) => l11_sum_any 1 ⟨#[114, 105, 100, 101]⟩ 7 W (by decide +kernel)
  have hs2 := fun (W : World) => l11_sum_any 2 ⟨#[49, 48, 48, 48, 48, 44, 50, 48, 48, 48, 48]⟩ 89 W (by decide +kernel)
  have HWR := Lib.hid hwr
  clear hwr
  have HRD := Lib.hid hrd
  clear hrd
  have HRP := Lib.hid hrp
  clear hrp
  have HS1 := Lib.hid hs1
  clear hs1
  have HS2 := Lib.hid hs2
  clear hs2
  clear hw
  go_enter Tryz.func19, Tryz.ntmps19
  go_wp2_with (first
    | (go_at_call 9; refine (HWR.out _ exq).mono ?_; rintro e w' ⟨rfl, X2, rfl⟩)
    | (go_at_call 13; refine (HRD.out _ exq).mono ?_; rintro e w' ⟨q1, c1, rfl, X3, rfl⟩)
    | (go_at_call 15; refine (HRP.out _ exq).mono ?_; rintro e w' ⟨q2, c2, rfl, hz, X4, rfl⟩; have HZ := Lib.hid hz; clear hz)
    | (go_at_call 49; (with_reducible refine (HS1.out _).mono ?_); rintro e w' ⟨rfl, X5, rfl⟩)
    | (go_at_call 49; (with_reducible refine (HS2.out _).mono ?_); rintro e w' ⟨rfl, X6, rfl⟩)
    | (go_at_call 18; refine (r01_SameInts_any [1] _ _ _ (HZ.out.mono exq) (row_one _ _)).mono ?_; rintro e w' ⟨rfl, X7, rfl⟩))
  go_ret
  exact ⟨rfl, exq⟩
end Go.Proofs.YtiidkbjckbkjgaaGreatDoor

/-
  The law SheetWritten: its walk.
-/
namespace Go.Proofs.YtiidkbjckbkjgaaGreatDoor
open Go.RowKit Kr
set_option linter.unusedSimpArgs false
set_option linter.unusedVariables false

/-- What is known of the calls of the law's last region. -/
def wrKv (n : Nat) (c : Nat) : Option Value := if c = 12 then some (.bool true) else if c = 17 then some (.int .i64 ((n : Int) + 2)) else none
def WrPhi (n : Nat) (c : Nat) (v : Value) : Prop := (∀ u, wrKv n c = some u → v = u) ∧ (c = 16 → ∃ q k, v = .slice q (n + 2) k)

set_option maxRecDepth 4000 in
set_option maxHeartbeats 16000000 in
theorem l11_SheetWritten_any (kd : Int) (ps : List (List Int × Value)) (v : Value) (tx : ByteArray) (w : World) (hk : 0 ≤ kd ∧ kd ≤ 255) (h : ListsAt w v ps) (hw : LibAt w) (hc : ColsAt w) :
    Calls Tryz.prog 4 #[.agg #[.int .u8 kd, v], .string tx] w fun e w' => e = .returned (.bool true) ∧ w.Exts w' := by
  obtain ⟨q, cap, hv⟩ := h.row.len
  subst hv
  have hal := fun (W : World) (hE : w.Exts W) => l11_alive_any W (hw.mono hE)
  have hrd := fun (W : World) (hE : w.Exts W) => (sheet_Read_any ice_fn tx W (hw.mono hE)).mono fun e w' h2 => h2.det
  obtain ⟨⟨⟨rk, rl⟩, ri, re⟩, hRR⟩ : ∃ S, readR tx.data.toList = S := ⟨_, rfl⟩
  rw [hRR] at hrd
  have hre := fun (W : World) (hE : w.Exts W) => l11_ready_any kd ps _ W (h.mono hE) (hc.mono hE) hk
  obtain ⟨rb, hrb⟩ : ∃ b, (!greatS (ps.map Prod.fst) && sheetB kd (ps.map Prod.fst)) = b := ⟨_, rfl⟩
  rw [hrb] at hre
  have hrd2 : rb = true → ps.length ≤ 150 ∧ sheetB kd (ps.map Prod.fst) = true := fun e => by
    rw [e, Bool.and_eq_true, Bool.not_eq_true'] at hrb
    have h1 := (greatS_false hrb.1).1
    rw [List.length_map] at h1
    exact ⟨h1, hrb.2⟩
  obtain ⟨T, hT⟩ : ∃ t, textFrom 1 (linesOf kd (ps.map Prod.fst)) = t := ⟨_, rfl⟩
  have hwr : rb = true → writeR kd (ps.map Prod.fst) = if 1500 < T.length then ([], 9) else (T, 0) := fun e => by
    unfold writeR
    rw [(hrd2 e).2, hT]
    rfl
  have hlong : rb = true → 1500 < T.length → ∀ W : World, w.Exts W → Calls Tryz.prog 9 #[.agg #[.int .u8 kd, .slice q ps.length cap]] W fun e w' => e = .returned (.tuple #[.string ⟨#[]⟩, .int .i64 9]) ∧ W.Exts w' := fun e hl W hE => by
    have h1 := sheet_Write_any ice_fn kd ps _ W (h.mono hE) (by have := (hrd2 e).1; omega) hk (hw.mono hE)
    rw [hwr e, if_pos hl] at h1
    exact h1.mono fun e w' h2 => h2.det
  have hshort : rb = true → T.length ≤ 1500 → ∀ W : World, w.Exts W → Calls Tryz.prog 9 #[.agg #[.int .u8 kd, .slice q ps.length cap]] W fun e w' => e = .returned (.tuple #[.string (bytesT T), .int .i64 0]) ∧ W.Exts w' := fun e hl W hE => by
    have h1 := sheet_Write_any ice_fn kd ps _ W (h.mono hE) (by have := (hrd2 e).1; omega) hk (hw.mono hE)
    rw [hwr e, if_neg (by omega)] at h1
    exact h1.mono fun e w' h2 => h2.det
  have hback := fun (e : rb = true) (hl : T.length ≤ 1500) => write_read (hrd2 e).2 (by rw [hT]; exact hl)
  rw [hT] at hback
  have hread : rb = true → T.length ≤ 1500 → ∀ W : World, w.Exts W → Calls Tryz.prog 13 #[.string (bytesT T)] W fun e w' => ∃ q c zs, e = .returned (.tuple #[.agg #[.int .u8 kd, .slice q zs.length c], .int .i64 0, .int .i64 0]) ∧ ListsAt w' (.slice q zs.length c) zs ∧ zs.map Prod.fst = ps.map Prod.fst ∧ W.Exts w' := fun e hl W hE => by
    have h1 := sheet_Read_any ice_fn (bytesT T) W (hw.mono hE)
    rw [show (bytesT T).data.toList = T from rfl, (hback e hl).1] at h1
    exact h1.mono fun e w' h2 => h2.det
  have hends : rb = true → T.length ≤ 1500 → ∀ W : World, Calls Tryz.prog 22 #[.string (bytesT T)] W fun e w' => (∃ q c, e = .returned (.slice q (ps.length + 2) c)) ∧ W.Exts w' := fun e hl W => by
    have h1 := l11_ends_any (bytesT T) W (by rw [← tx_len]; show T.length ≤ 5000; omega)
    rw [show (bytesT T).data.toList = T from rfl, (hback e hl).2, List.length_map] at h1
    exact h1
  have HAL := Lib.hid hal
  clear hal
  have HRD := Lib.hid hrd
  clear hrd
  have HRE := Lib.hid hre
  clear hre
  have hLL := h
  have hfew9 := fun (e : rb = true) => (hrd2 e).1
  have HLL := Lib.hid hLL
  clear hLL
  clear hwr hback hrd2 hrb hT hk
  rcases Nat.lt_or_ge 5000 tx.size with h5 | h5
  · have w1 : ¬ (tx.size : Int) ≤ 5000 := by omega
    clear h5 h hw hc hRR
    cases rb
    · clear hlong hshort hread hends hfew9
      go_enter Tryz.func4, Tryz.ntmps4
      go_wp2_with (first | (go_at_call 19; refine (HAL.out _ exq).mono ?_; rintro e w' ⟨rfl, X1, rfl⟩) | (go_at_call 21; refine (HRE.out _ exq).mono ?_; rintro e w' ⟨rfl, X20, rfl⟩))
      go_ret
      exact ⟨rfl, exq⟩
    · rcases Nat.lt_or_ge 1500 T.length with hT | hT
      · have hwl := hlong rfl hT
        have HWL := Lib.hid hwl
        clear hwl
        clear hlong hshort hread hends hT hfew9
        go_enter Tryz.func4, Tryz.ntmps4
        go_wp2_with (first | (go_at_call 19; refine (HAL.out _ exq).mono ?_; rintro e w' ⟨rfl, X1, rfl⟩) | (go_at_call 21; refine (HRE.out _ exq).mono ?_; rintro e w' ⟨rfl, X20, rfl⟩) | (go_at_call 9; refine (HWL.out _ exq).mono ?_; rintro e w' ⟨rfl, X21, rfl⟩))
        go_ret
        exact ⟨rfl, exq⟩
      · have hwl := hshort rfl hT
        have hrw := hread rfl hT
        have hen := hends rfl hT
        have hpn := hfew9 rfl
        have HWL := Lib.hid hwl
        clear hwl
        have HRW := Lib.hid hrw
        clear hrw
        have HEN := Lib.hid hen
        clear hen
        clear hlong hshort hread hends hT hfew9
        go_enter Tryz.func4, Tryz.ntmps4
        go_upto_region 16 with (first | (go_at_call 19; refine (HAL.out _ exq).mono ?_; rintro e w' ⟨rfl, X1, rfl⟩) | (go_at_call 21; refine (HRE.out _ exq).mono ?_; rintro e w' ⟨rfl, X20, rfl⟩) | (go_at_call 9; refine (HWL.out _ exq).mono ?_; rintro e w' ⟨rfl, X21, rfl⟩) | (go_at_call 13; refine (HRW.out _ exq).mono ?_; rintro e w' ⟨q9, c9, zs, rfl, hz1, hz2, X23, rfl⟩; have HZ1 := Lib.hid hz1; have HZ2 := Lib.hid hz2; clear hz1 hz2))
        refine wp_region_callsS 24 (fun i => i == 12 || i == 16 || i == 17) (fun c u W => WrPhi ps.length c u) (wrKv ps.length) (by kernel_rfl) (fun ν => by kernel_rfl) (by kernel_rfl) (by kernel_rfl) (by kernel_rfl) (by kernel_rfl) (by kernel_rfl) ?mono ?known ?_
        rotate_left 2
        apply Exists.intro
        refine ⟨fun ν hkn => ?want, fun ν hkn L hL => ?walk, fun c oc hc hU ν hkn hwt W hE hΦ => ?calls, fun ν hkn W hE hΦ => ?tail⟩
        case walk =>
          repeat (first
            | (refine modTo_free rfl ?_; go_big_quiet_step (fail))
            | (refine modTo_call rfl (hkn _ _ rfl) ?_; go_big_quiet_step (fail))
            | (refine modTo_call rfl rfl ?_; go_big_quiet_step (fail)))
          refine modTo_end ?_
          exact hL
        case mono => exact fun c v W W' h hE => h
        case known => exact fun c v W u h hk => h.1 u hk
        case want =>
          intro i oi hi hU
          simp at hU
          rcases hU with (rfl | rfl) | rfl
          all_goals
            simp only [List.getElem?_cons_succ, List.getElem?_cons_zero, Option.some.injEq] at hi
            subst hi
            first | exact .inl rfl | (left; simp [Region.wanted, yielded, hkn 12 _ rfl])
        case calls =>
          have hwW : w.Exts W := World.Exts.trans exq hE
          simp at hU
          rcases hU with (rfl | rfl) | rfl
          · simp only [List.getElem?_cons_succ, List.getElem?_cons_zero, Option.some.injEq] at hc
            subst hc
            refine Oper.gives_fn rfl rfl rfl (enters_of Tryz.func17 (by kernel_rfl) rfl) ?_ rfl
            refine (r11_Same_any kd zs ps _ _ W (HZ1.out.mono (World.Exts.trans exq hE)) (HLL.out.mono hwW) HZ2.out).mono ?_
            rintro e W' ⟨rfl, h3⟩
            exact ⟨_, rfl, h3, ⟨fun u hu => (by cases hu; rfl), fun e => (by cases e)⟩⟩
          · simp only [List.getElem?_cons_succ, List.getElem?_cons_zero, Option.some.injEq] at hc
            subst hc
            refine Oper.gives_fn rfl rfl rfl (enters_of Tryz.func22 (by kernel_rfl) rfl) ?_ rfl
            refine (HEN.out W).mono ?_
            rintro e W' ⟨⟨qe, ce, rfl⟩, h3⟩
            exact ⟨_, rfl, h3, ⟨fun u hu => (by cases hu), fun _ => ⟨qe, ce, rfl⟩⟩⟩
          · simp only [List.getElem?_cons_succ, List.getElem?_cons_zero, Option.some.injEq] at hc
            subst hc
            obtain ⟨qe, ce, hν⟩ := (hΦ 16 rfl ⟨⟨16, .data⟩, by simp, rfl, rfl⟩).2 rfl
            generalize ν 16 = v16 at *
            subst hν
            exact .inr ⟨.int .i64 ((ps.length : Int) + 2), W, by first | kernel_rfl | simp [execOp, resolve, invoke, builtin, Result.andThen, go_sem], World.Exts.refl _, ⟨fun u hu => (by cases hu; rfl), fun e => (by cases e)⟩⟩
        case tail =>
          simp only [List.drop_succ_cons, List.drop_zero]
          obtain ⟨X30, rfl⟩ := hE
          clear hΦ hkn
          go_wp2_with fail
          go_ret
          exact ⟨rfl, exq⟩
  have w1 : (tx.size : Int) ≤ 5000 := by omega
  by_cases h0 : re = 0
  rotate_left
  · have w2 : (re == 0) = false := by rw [beq_eq_false_iff_ne]; exact h0
    clear h5 h hw hc hRR
    cases rb
    · clear hlong hshort hread hends hfew9
      go_enter Tryz.func4, Tryz.ntmps4
      go_wp2_with (first | (go_at_call 19; refine (HAL.out _ exq).mono ?_; rintro e w' ⟨rfl, X1, rfl⟩) | (go_at_call 13; ((with_reducible refine (HRD.out _ ?hrx).mono ?_); (case hrx => exact exq); rintro e w' ⟨q1, c1, xs, rfl, hx1, hx2, X2, rfl⟩; have HX1 := Lib.hid hx1; have HX2 := Lib.hid hx2; clear hx1 hx2)) | (go_at_call 21; refine (HRE.out _ exq).mono ?_; rintro e w' ⟨rfl, X20, rfl⟩))
      go_ret
      exact ⟨rfl, exq⟩
    · rcases Nat.lt_or_ge 1500 T.length with hT | hT
      · have hwl := hlong rfl hT
        have HWL := Lib.hid hwl
        clear hwl
        clear hlong hshort hread hends hT hfew9
        go_enter Tryz.func4, Tryz.ntmps4
        go_wp2_with (first | (go_at_call 19; refine (HAL.out _ exq).mono ?_; rintro e w' ⟨rfl, X1, rfl⟩) | (go_at_call 13; ((with_reducible refine (HRD.out _ ?hrx).mono ?_); (case hrx => exact exq); rintro e w' ⟨q1, c1, xs, rfl, hx1, hx2, X2, rfl⟩; have HX1 := Lib.hid hx1; have HX2 := Lib.hid hx2; clear hx1 hx2)) | (go_at_call 21; refine (HRE.out _ exq).mono ?_; rintro e w' ⟨rfl, X20, rfl⟩) | (go_at_call 9; refine (HWL.out _ exq).mono ?_; rintro e w' ⟨rfl, X21, rfl⟩))
        go_ret
        exact ⟨rfl, exq⟩
      · have hwl := hshort rfl hT
        have hrw := hread rfl hT
        have hen := hends rfl hT
        have hpn := hfew9 rfl
        have HWL := Lib.hid hwl
        clear hwl
        have HRW := Lib.hid hrw
        clear hrw
        have HEN := Lib.hid hen
        clear hen
        clear hlong hshort hread hends hT hfew9
        go_enter Tryz.func4, Tryz.ntmps4
        go_upto_region 16 with (first | (go_at_call 19; refine (HAL.out _ exq).mono ?_; rintro e w' ⟨rfl, X1, rfl⟩) | (go_at_call 13; ((with_reducible refine (HRD.out _ ?hrx).mono ?_); (case hrx => exact exq); rintro e w' ⟨q1, c1, xs, rfl, hx1, hx2, X2, rfl⟩; have HX1 := Lib.hid hx1; have HX2 := Lib.hid hx2; clear hx1 hx2)) | (go_at_call 21; refine (HRE.out _ exq).mono ?_; rintro e w' ⟨rfl, X20, rfl⟩) | (go_at_call 9; refine (HWL.out _ exq).mono ?_; rintro e w' ⟨rfl, X21, rfl⟩) | (go_at_call 13; refine (HRW.out _ exq).mono ?_; rintro e w' ⟨q9, c9, zs, rfl, hz1, hz2, X23, rfl⟩; have HZ1 := Lib.hid hz1; have HZ2 := Lib.hid hz2; clear hz1 hz2))
        refine wp_region_callsS 24 (fun i => i == 12 || i == 16 || i == 17) (fun c u W => WrPhi ps.length c u) (wrKv ps.length) (by kernel_rfl) (fun ν => by kernel_rfl) (by kernel_rfl) (by kernel_rfl) (by kernel_rfl) (by kernel_rfl) (by kernel_rfl) ?mono ?known ?_
        rotate_left 2
        apply Exists.intro
        refine ⟨fun ν hkn => ?want, fun ν hkn L hL => ?walk, fun c oc hc hU ν hkn hwt W hE hΦ => ?calls, fun ν hkn W hE hΦ => ?tail⟩
        case walk =>
          repeat (first
            | (refine modTo_free rfl ?_; go_big_quiet_step (fail))
            | (refine modTo_call rfl (hkn _ _ rfl) ?_; go_big_quiet_step (fail))
            | (refine modTo_call rfl rfl ?_; go_big_quiet_step (fail)))
          refine modTo_end ?_
          exact hL
        case mono => exact fun c v W W' h hE => h
        case known => exact fun c v W u h hk => h.1 u hk
        case want =>
          intro i oi hi hU
          simp at hU
          rcases hU with (rfl | rfl) | rfl
          all_goals
            simp only [List.getElem?_cons_succ, List.getElem?_cons_zero, Option.some.injEq] at hi
            subst hi
            first | exact .inl rfl | (left; simp [Region.wanted, yielded, hkn 12 _ rfl])
        case calls =>
          have hwW : w.Exts W := World.Exts.trans exq hE
          simp at hU
          rcases hU with (rfl | rfl) | rfl
          · simp only [List.getElem?_cons_succ, List.getElem?_cons_zero, Option.some.injEq] at hc
            subst hc
            refine Oper.gives_fn rfl rfl rfl (enters_of Tryz.func17 (by kernel_rfl) rfl) ?_ rfl
            refine (r11_Same_any kd zs ps _ _ W (HZ1.out.mono (World.Exts.trans exq hE)) (HLL.out.mono hwW) HZ2.out).mono ?_
            rintro e W' ⟨rfl, h3⟩
            exact ⟨_, rfl, h3, ⟨fun u hu => (by cases hu; rfl), fun e => (by cases e)⟩⟩
          · simp only [List.getElem?_cons_succ, List.getElem?_cons_zero, Option.some.injEq] at hc
            subst hc
            refine Oper.gives_fn rfl rfl rfl (enters_of Tryz.func22 (by kernel_rfl) rfl) ?_ rfl
            refine (HEN.out W).mono ?_
            rintro e W' ⟨⟨qe, ce, rfl⟩, h3⟩
            exact ⟨_, rfl, h3, ⟨fun u hu => (by cases hu), fun _ => ⟨qe, ce, rfl⟩⟩⟩
          · simp only [List.getElem?_cons_succ, List.getElem?_cons_zero, Option.some.injEq] at hc
            subst hc
            obtain ⟨qe, ce, hν⟩ := (hΦ 16 rfl ⟨⟨16, .data⟩, by simp, rfl, rfl⟩).2 rfl
            generalize ν 16 = v16 at *
            subst hν
            exact .inr ⟨.int .i64 ((ps.length : Int) + 2), W, by first | kernel_rfl | simp [execOp, resolve, invoke, builtin, Result.andThen, go_sem], World.Exts.refl _, ⟨fun u hu => (by cases hu; rfl), fun e => (by cases e)⟩⟩
        case tail =>
          simp only [List.drop_succ_cons, List.drop_zero]
          obtain ⟨X30, rfl⟩ := hE
          clear hΦ hkn
          go_wp2_with fail
          go_ret
          exact ⟨rfl, exq⟩
  subst h0
  obtain ⟨rfl, hsb, hwt⟩ := read_write hRR
  have hrf := rows_few hsb
  have hrk : 0 ≤ rk ∧ rk ≤ 255 := by
    have h1 := hsb
    unfold sheetB at h1
    simp only [Bool.and_eq_true] at h1
    have h2 := inb_le h1.1
    omega
  have hwx : ∀ (xs : List (List Int × Value)) (v' : Value) (W : World), ListsAt W v' xs → xs.map Prod.fst = rl → w.Exts W → Calls Tryz.prog 9 #[.agg #[.int .u8 rk, v']] W fun e w' => e = .returned (.tuple #[.string tx, .int .i64 0]) ∧ W.Exts w' := fun xs v' W hL hm hE => by
    have hl : xs.length ≤ 900 := by rw [← List.length_map (f := Prod.fst), hm]; omega
    have h1 := sheet_Write_any ice_fn rk xs v' W hL hl hrk (hw.mono hE)
    rw [hm, hwt] at h1
    refine h1.mono fun e w' h2 => ?_
    have h3 := h2.det
    rw [show bytesT ((tx.data.toList, (0 : Int)).1) = tx from tx_inj rfl] at h3
    exact h3
  have hsx : ∀ (xs : List (List Int × Value)) (v' : Value) (W : World), ListsAt W v' xs → xs.map Prod.fst = rl → w.Exts W → Calls Tryz.prog 20 #[.agg #[.int .u8 rk, v']] W fun e w' => e = .returned (.bool true) ∧ W.Exts w' := fun xs v' W hL hm hE => by
    have hl : xs.length ≤ 900 := by rw [← List.length_map (f := Prod.fst), hm]; omega
    have h1 := r11_Sheet_any rk xs v' W hL (by omega) (hc.mono hE) hrk
    rw [hm, hsb] at h1
    exact h1
  have HWX := Lib.hid hwx
  clear hwx
  have HSX := Lib.hid hsx
  clear hsx
  clear h5 h hw hc hRR hsb hwt hrf hrk
  cases rb
  · clear hlong hshort hread hends hfew9
    go_enter Tryz.func4, Tryz.ntmps4
    go_wp2_with (first | (go_at_call 19; refine (HAL.out _ exq).mono ?_; rintro e w' ⟨rfl, X1, rfl⟩) | (go_at_call 13; ((with_reducible refine (HRD.out _ ?hrx).mono ?_); (case hrx => exact exq); rintro e w' ⟨q1, c1, xs, rfl, hx1, hx2, X2, rfl⟩; have HX1 := Lib.hid hx1; have HX2 := Lib.hid hx2; clear hx1 hx2)) | (go_at_call 9; ((with_reducible refine (HWX.out xs _ _ ?ha ?hb ?hc).mono ?_); (case ha => exact HX1.out.mono exq); (case hb => exact HX2.out); (case hc => exact exq); rintro e w' ⟨rfl, X3, rfl⟩)) | (go_at_call 20; refine (HSX.out xs _ _ (HX1.out.mono exq) HX2.out exq).mono ?_; rintro e w' ⟨rfl, X4, rfl⟩) | (go_at_call 21; refine (HRE.out _ exq).mono ?_; rintro e w' ⟨rfl, X20, rfl⟩))
    go_ret
    exact ⟨rfl, exq⟩
  · rcases Nat.lt_or_ge 1500 T.length with hT | hT
    · have hwl := hlong rfl hT
      have HWL := Lib.hid hwl
      clear hwl
      clear hlong hshort hread hends hT hfew9
      go_enter Tryz.func4, Tryz.ntmps4
      go_wp2_with (first | (go_at_call 19; refine (HAL.out _ exq).mono ?_; rintro e w' ⟨rfl, X1, rfl⟩) | (go_at_call 13; ((with_reducible refine (HRD.out _ ?hrx).mono ?_); (case hrx => exact exq); rintro e w' ⟨q1, c1, xs, rfl, hx1, hx2, X2, rfl⟩; have HX1 := Lib.hid hx1; have HX2 := Lib.hid hx2; clear hx1 hx2)) | (go_at_call 9; ((with_reducible refine (HWX.out xs _ _ ?ha ?hb ?hc).mono ?_); (case ha => exact HX1.out.mono exq); (case hb => exact HX2.out); (case hc => exact exq); rintro e w' ⟨rfl, X3, rfl⟩)) | (go_at_call 20; refine (HSX.out xs _ _ (HX1.out.mono exq) HX2.out exq).mono ?_; rintro e w' ⟨rfl, X4, rfl⟩) | (go_at_call 21; refine (HRE.out _ exq).mono ?_; rintro e w' ⟨rfl, X20, rfl⟩) | (go_at_call 9; refine (HWL.out _ exq).mono ?_; rintro e w' ⟨rfl, X21, rfl⟩))
      go_ret
      exact ⟨rfl, exq⟩
    · have hwl := hshort rfl hT
      have hrw := hread rfl hT
      have hen := hends rfl hT
      have hpn := hfew9 rfl
      have HWL := Lib.hid hwl
      clear hwl
      have HRW := Lib.hid hrw
      clear hrw
      have HEN := Lib.hid hen
      clear hen
      clear hlong hshort hread hends hT hfew9
      go_enter Tryz.func4, Tryz.ntmps4
      go_upto_region 16 with (first | (go_at_call 19; refine (HAL.out _ exq).mono ?_; rintro e w' ⟨rfl, X1, rfl⟩) | (go_at_call 13; ((with_reducible refine (HRD.out _ ?hrx).mono ?_); (case hrx => exact exq); rintro e w' ⟨q1, c1, xs, rfl, hx1, hx2, X2, rfl⟩; have HX1 := Lib.hid hx1; have HX2 := Lib.hid hx2; clear hx1 hx2)) | (go_at_call 9; ((with_reducible refine (HWX.out xs _ _ ?ha ?hb ?hc).mono ?_); (case ha => exact HX1.out.mono exq); (case hb => exact HX2.out); (case hc => exact exq); rintro e w' ⟨rfl, X3, rfl⟩)) | (go_at_call 20; refine (HSX.out xs _ _ (HX1.out.mono exq) HX2.out exq).mono ?_; rintro e w' ⟨rfl, X4, rfl⟩) | (go_at_call 21; refine (HRE.out _ exq).mono ?_; rintro e w' ⟨rfl, X20, rfl⟩) | (go_at_call 9; refine (HWL.out _ exq).mono ?_; rintro e w' ⟨rfl, X21, rfl⟩) | (go_at_call 13; refine (HRW.out _ exq).mono ?_; rintro e w' ⟨q9, c9, zs, rfl, hz1, hz2, X23, rfl⟩; have HZ1 := Lib.hid hz1; have HZ2 := Lib.hid hz2; clear hz1 hz2))
      refine wp_region_callsS 24 (fun i => i == 12 || i == 16 || i == 17) (fun c u W => WrPhi ps.length c u) (wrKv ps.length) (by kernel_rfl) (fun ν => by kernel_rfl) (by kernel_rfl) (by kernel_rfl) (by kernel_rfl) (by kernel_rfl) (by kernel_rfl) ?mono ?known ?_
      rotate_left 2
      apply Exists.intro
      refine ⟨fun ν hkn => ?want, fun ν hkn L hL => ?walk, fun c oc hc hU ν hkn hwt W hE hΦ => ?calls, fun ν hkn W hE hΦ => ?tail⟩
      case walk =>
        repeat (first
          | (refine modTo_free rfl ?_; go_big_quiet_step (fail))
          | (refine modTo_call rfl (hkn _ _ rfl) ?_; go_big_quiet_step (fail))
          | (refine modTo_call rfl rfl ?_; go_big_quiet_step (fail)))
        refine modTo_end ?_
        exact hL
      case mono => exact fun c v W W' h hE => h
      case known => exact fun c v W u h hk => h.1 u hk
      case want =>
        intro i oi hi hU
        simp at hU
        rcases hU with (rfl | rfl) | rfl
        all_goals
          simp only [List.getElem?_cons_succ, List.getElem?_cons_zero, Option.some.injEq] at hi
          subst hi
          first | exact .inl rfl | (left; simp [Region.wanted, yielded, hkn 12 _ rfl])
      case calls =>
        have hwW : w.Exts W := World.Exts.trans exq hE
        simp at hU
        rcases hU with (rfl | rfl) | rfl
        · simp only [List.getElem?_cons_succ, List.getElem?_cons_zero, Option.some.injEq] at hc
          subst hc
          refine Oper.gives_fn rfl rfl rfl (enters_of Tryz.func17 (by kernel_rfl) rfl) ?_ rfl
          refine (r11_Same_any kd zs ps _ _ W (HZ1.out.mono (World.Exts.trans exq hE)) (HLL.out.mono hwW) HZ2.out).mono ?_
          rintro e W' ⟨rfl, h3⟩
          exact ⟨_, rfl, h3, ⟨fun u hu => (by cases hu; rfl), fun e => (by cases e)⟩⟩
        · simp only [List.getElem?_cons_succ, List.getElem?_cons_zero, Option.some.injEq] at hc
          subst hc
          refine Oper.gives_fn rfl rfl rfl (enters_of Tryz.func22 (by kernel_rfl) rfl) ?_ rfl
          refine (HEN.out W).mono ?_
          rintro e W' ⟨⟨qe, ce, rfl⟩, h3⟩
          exact ⟨_, rfl, h3, ⟨fun u hu => (by cases hu), fun _ => ⟨qe, ce, rfl⟩⟩⟩
        · simp only [List.getElem?_cons_succ, List.getElem?_cons_zero, Option.some.injEq] at hc
          subst hc
          obtain ⟨qe, ce, hν⟩ := (hΦ 16 rfl ⟨⟨16, .data⟩, by simp, rfl, rfl⟩).2 rfl
          generalize ν 16 = v16 at *
          subst hν
          exact .inr ⟨.int .i64 ((ps.length : Int) + 2), W, by first | kernel_rfl | simp [execOp, resolve, invoke, builtin, Result.andThen, go_sem], World.Exts.refl _, ⟨fun u hu => (by cases hu; rfl), fun e => (by cases e)⟩⟩
      case tail =>
        simp only [List.drop_succ_cons, List.drop_zero]
        obtain ⟨X30, rfl⟩ := hE
        clear hΦ hkn
        go_wp2_with fail
        go_ret
        exact ⟨rfl, exq⟩
end Go.Proofs.YtiidkbjckbkjgaaGreatDoor

/-
  What the row of SheetWritten lists.
-/
namespace Go.Proofs.YtiidkbjckbkjgaaGreatDoor
open Go.ChangeShapes Go.RowKit Kr
set_option linter.unusedVariables false
set_option linter.unusedSimpArgs false

/-- What the row lists. -/
def laidWritten : List (String × DataW Unit) := [("math/bits.deBruijn32tab", Rows.laid_math_bits_deBruijn32tab), ("math/bits.deBruijn64tab", Rows.laid_math_bits_deBruijn64tab), ("internal/strconv.uint64pow10", Rows.laid_internal_strconv_uint64pow10), ("unicode/utf8.acceptRanges", Rows.laid_unicode_utf8_acceptRanges), ("strconv.ErrRange", Rows.laid_strconv_ErrRange), ("strconv.ErrSyntax", Rows.laid_strconv_ErrSyntax), ("kreisel/kreiselref11.cols", Rows.laid_kreisel_kreiselref11_cols), ("unicode/utf8.first", Rows.laid_unicode_utf8_first)]
theorem plain_written {W : World} (h : laidMetH Tryz.prog laidWritten W) : laidMet Tryz.prog laidWritten W := by
  have h1 := (laidMetH_iff.1 h).1
  have e : (laidWritten.filter fun x => x.2.handleName?.isNone) = laidWritten := List.filter_eq_self.2 fun x hx => List.all_eq_true.1 (show (laidWritten.all fun x => x.2.handleName?.isNone) = true by kernel_rfl) x hx
  rw [e] at h1
  exact h1
theorem lib_of_laidW {W : World} (h0 : laidMetH Tryz.prog laidWritten W) (hsh : W.ShapedOpen Tryz.prog) : LibAt W :=
  have h := plain_written h0
  ⟨tab_of h (by simp [laidWritten]), most_of hsh, err_of h (n := "strconv.ErrSyntax") (g0 := 4) (d := .ptr (.agg [.lit (.string [105, 110, 118, 97, 108, 105, 100, 32, 115, 121, 110, 116, 97, 120])])) (by simp [laidWritten, Rows.laid_strconv_ErrSyntax]) (by kernel_rfl) (by kernel_rfl), err_of h (n := "strconv.ErrRange") (g0 := 5) (d := .ptr (.agg [.lit (.string [118, 97, 108, 117, 101, 32, 111, 117, 116, 32, 111, 102, 32, 114, 97, 110, 103, 101])])) (by simp [laidWritten, Rows.laid_strconv_ErrRange]) (by kernel_rfl) (by kernel_rfl)⟩
theorem cols_of_laidW {W : World} (h : laidMetH Tryz.prog laidWritten W) : ColsAt W := cols_of (plain_written h) (by simp [laidWritten])
theorem door_met4 (os : Os) (args : Array Value) : laidMetH Tryz.prog laidWritten ((pinnedWorld os).forCall (fun _ _ => 0) ⟨#[], args, []⟩).memory :=
  laidMetH_of_parts3 (fuel := 8) (laidMet_of_run' 8 (by kernel_rfl) (by kernel_rfl)) (by kernel_rfl) (by kernel_rfl)
end Go.Proofs.YtiidkbjckbkjgaaGreatDoor
