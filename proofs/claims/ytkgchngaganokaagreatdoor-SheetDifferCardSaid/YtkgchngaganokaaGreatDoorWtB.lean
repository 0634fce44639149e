/-
  Several texts in one: see the heads of its parts.
-/
import Derived.Test.YtkgchngaganokaaGreatDoorVnP
import Derived.Test.YtkgchngaganokaaGreatDoorVeX
import Derived.Test.YtkgchngaganokaaGreatDoorVdT
import Derived.Test.YtkgchngaganokaaGreatDoorYcD
import Derived.Test.YtkgchngaganokaaGreatDoorBt
import Derived.Test.YtkgchngaganokaaGreatDoorSa
import Derived.Test.YtkgchngaganokaaGreatDoorYjT
import Derived.Test.YtkgchngaganokaaGreatDoorVwI

/-
  Sheets: what is written is read to the same; what is read is written to the same. Plain laws.
-/
namespace Kr
open Go
set_option linter.unusedSimpArgs false
set_option linter.unusedVariables false

/-- Lines with their check numbers, from line n on. -/
def sealsFrom : Nat → List (List UInt8) → List (List UInt8)
  | _, [] => []
  | n, l :: r => sealT n l :: sealsFrom (n + 1) r
theorem text_seals : ∀ (ls : List (List UInt8)) (n : Nat), textFrom n ls = (sealsFrom n ls).flatMap (· ++ [10])
  | [], _ => rfl
  | l :: r, n => by rw [textFrom, sealsFrom, List.flatMap_cons, text_seals r (n + 1)]; simp
theorem seals_len : ∀ (ls : List (List UInt8)) (n : Nat), (sealsFrom n ls).length = ls.length
  | [], _ => rfl
  | l :: r, n => by rw [sealsFrom, List.length_cons, List.length_cons, seals_len r (n + 1)]
theorem seal_no10 {n : Nat} {l : List UInt8} (h : (10 : UInt8) ∉ l) : (10 : UInt8) ∉ sealT n l := by
  unfold sealT
  intro hm
  rcases List.mem_append.1 hm with hm | hm
  · exact h hm
  · rcases List.mem_cons.1 hm with hm | hm
    · cases hm
    · have := three_digit (sumT_lt n l) 10 hm
      revert this
      decide
theorem seals_no10 : ∀ (ls : List (List UInt8)) (n : Nat), (∀ l ∈ ls, (10 : UInt8) ∉ l) → ∀ l ∈ sealsFrom n ls, (10 : UInt8) ∉ l
  | [], _, _, l, hl => by cases hl
  | x :: r, n, h, l, hl => by
    rw [sealsFrom] at hl
    rcases List.mem_cons.1 hl with rfl | hl
    · exact seal_no10 (h x (List.mem_cons_self ..))
    · exact seals_no10 r (n + 1) (fun y hy => h y (List.mem_cons_of_mem _ hy)) l hl
theorem body_seal (n : Nat) (l : List UInt8) : bodyOf (sealT n l) = l := by
  unfold bodyOf
  rw [seal_len, Nat.add_sub_cancel]
  unfold sealT
  simp
theorem form_seal (n : Nat) (l : List UInt8) : formB (sealT n l) = true := by
  have h1 := seal_len n l
  unfold formB
  rw [h1]
  have h2 : (sealT n l).getD (l.length + 4 - 4) 0 = 32 := by
    rw [Nat.add_sub_cancel]
    unfold sealT
    simp [List.getD_eq_getElem?_getD]
  have h3 : (sealT n l).drop (l.length + 4 - 3) = three (sumT n l) := by
    unfold sealT
    rw [show l.length + 4 - 3 = l.length + 1 by omega]
    simp [List.drop_append]
  rw [h2, h3]
  simp only [decide_true, Bool.true_and, Bool.and_eq_true, decide_eq_true_eq]
  exact ⟨by omega, List.all_eq_true.2 fun y hy => three_digit (sumT_lt n l) y hy⟩
theorem take_seal_ok {n : Nat} {st s : RSt} {b : List UInt8} (he : st.ended = false) (h : midL n st b = some s) : takeL n st (sealT n b) = .ok s := by
  unfold takeL
  rw [he, form_seal, body_seal, h]
  simp
theorem take_parts {n : Nat} {st s : RSt} {l : List UInt8} (h : takeL n st l = .ok s) : st.ended = false ∧ midL n st (bodyOf l) = some s ∧ sealT n (bodyOf l) = l := by
  unfold takeL at h
  cases he : st.ended
  · rw [he] at h
    cases hf : formB l
    · rw [hf] at h; simp at h
    · rw [hf] at h
      cases hm : midL n st (bodyOf l) with
      | none => rw [hm] at h; simp at h
      | some s' =>
        rw [hm] at h
        simp only [Bool.not_true, Bool.or_self, Bool.false_eq_true, if_false] at h
        by_cases hs : sealT n (bodyOf l) = l
        · rw [if_pos hs] at h
          cases h
          exact ⟨rfl, rfl, hs⟩
        · rw [if_neg hs] at h; cases h
  · rw [he] at h; simp at h
theorem take_err {n : Nat} {st : RSt} {l : List UInt8} {e : Int} (h : takeL n st l = .error e) : e ≠ 0 := by
  unfold takeL at h
  split at h
  · cases h; decide
  · split at h
    · cases h; decide
    · split at h
      · cases h
      · cases h; decide
theorem readAll_err : ∀ {ls : List (List UInt8)} {n m : Nat} {st : RSt} {e : Int}, readAll n st ls = .error (m, e) → e ≠ 0
  | [], _, _, _, _, h => by cases h
  | l :: r, n, m, st, e, h => by
    unfold readAll at h
    cases ht : takeL n st l with
    | error e' => rw [ht] at h; cases h; exact take_err ht
    | ok s => rw [ht] at h; exact readAll_err h

/-! ### rows -/
theorem splitC_none {s : List UInt8} (h : (44 : UInt8) ∉ s) : splitC s = [s] := by
  induction s with
  | nil => rfl
  | cons b r ih =>
    have h1 : b ≠ 44 := fun e => h (by rw [e]; exact List.mem_cons_self ..)
    rw [splitC, if_neg h1, ih (fun hm => h (List.mem_cons_of_mem _ hm))]
theorem splitC_app {a s : List UInt8} (h : (44 : UInt8) ∉ a) : splitC (a ++ 44 :: s) = a :: splitC s := by
  induction a with
  | nil => simp [splitC]
  | cons b r ih =>
    have h1 : b ≠ 44 := fun e => h (by rw [e]; exact List.mem_cons_self ..)
    rw [List.cons_append, splitC, if_neg h1, ih (fun hm => h (List.mem_cons_of_mem _ hm))]
theorem join_two (a b : List UInt8) (r : List (List UInt8)) : Lib.join (a :: b :: r) [44] = a ++ 44 :: Lib.join (b :: r) [44] := by
  rw [Lib.join_cons, Lib.join_cons]
  simp [Lib.joinTail]
theorem split_join : ∀ (ps : List (List UInt8)), ps ≠ [] → (∀ p ∈ ps, (44 : UInt8) ∉ p) → splitC (Lib.join ps [44]) = ps
  | [], h, _ => absurd rfl h
  | [a], _, h => by rw [Lib.join_one]; exact splitC_none (h a (List.mem_cons_self ..))
  | a :: b :: r, _, h => by
    rw [join_two, splitC_app (h a (List.mem_cons_self ..)), split_join (b :: r) (by simp) (fun p hp => h p (List.mem_cons_of_mem _ hp))]
theorem join_split (s : List UInt8) : Lib.join (splitC s) [44] = s := by
  induction s with
  | nil => rfl
  | cons b r ih =>
    rw [splitC]
    by_cases hb : b = 44
    · rw [if_pos hb]
      cases hs : splitC r with
      | nil => exact absurd hs (splitC_ne r)
      | cons h t => rw [hs] at ih; rw [join_two, ih, hb]; rfl
    · rw [if_neg hb]
      cases hs : splitC r with
      | nil => exact absurd hs (splitC_ne r)
      | cons h t =>
        rw [hs] at ih
        cases t with
        | nil => rw [Lib.join_one] at ih; dsimp only; rw [Lib.join_one, ih]
        | cons h2 t2 => rw [join_two] at ih; dsimp only; rw [join_two, List.cons_append, ih]
theorem itoa_no {z : Int} (h : 0 ≤ z) (c : UInt8) (hc : c.toNat < 48) : c ∉ Lib.itoa z := fun hm => by
  rw [itoa_pos h] at hm
  have := digits_all _ c hm
  omega
theorem mapM_nums : ∀ {x : List Int}, (∀ z ∈ x, 0 ≤ z ∧ z ≤ 86400000) → (x.map Lib.itoa).mapM numOf = some (x.map Int.toNat)
  | [], _ => rfl
  | z :: r, h => by
    obtain ⟨h0, h1⟩ := h z (List.mem_cons_self ..)
    rw [List.map_cons, mapM_cons_some (b := z.toNat) (numOf_some.2 ⟨by omega, itoa_pos h0⟩), mapM_nums fun y hy => h y (List.mem_cons_of_mem _ hy)]
    rfl
theorem rowOf_text {x : List Int} (h1 : 0 < x.length) (h5 : x.length ≤ 5) (h : ∀ z ∈ x, 0 ≤ z ∧ z ≤ 86400000) : rowOf (rowText x) = some x := by
  unfold rowOf rowText
  rw [split_join _ (by intro e; have := congrArg List.length e; rw [List.length_map] at this; simp at this; subst this; simp at h1) (fun p hp => by
    obtain ⟨z, hz, rfl⟩ := List.mem_map.1 hp
    exact itoa_no (h z hz).1 44 (by decide)), mapM_nums h]
  dsimp only
  rw [if_pos (by rw [List.length_map]; exact h5), List.map_map]
  congr 1
  conv => rhs; rw [← List.map_id x]
  refine List.map_congr_left fun z hz => ?_
  have := (h z hz).1
  simp
  omega
theorem mapM_back : ∀ {ps : List (List UInt8)} {ns : List Nat}, ps.mapM numOf = some ns → (ns.map fun n : Nat => Lib.itoa (n : Int)) = ps
  | [], ns, h => by cases h; rfl
  | p :: r, ns, h => by
    cases hp : numOf p with
    | none => rw [mapM_cons_none hp] at h; cases h
    | some n =>
      rw [mapM_cons_some hp] at h
      cases hr : r.mapM numOf with
      | none => rw [hr] at h; cases h
      | some ms =>
        rw [hr] at h
        cases h
        rw [List.map_cons, mapM_back hr, itoa_nat, ← (numOf_some.1 hp).2]
theorem text_rowOf {s : List UInt8} {x : List Int} (h : rowOf s = some x) : rowText x = s := by
  unfold rowOf at h
  cases hm : (splitC s).mapM numOf with
  | none => rw [hm] at h; cases h
  | some ns =>
    rw [hm] at h
    dsimp only at h
    split at h
    · cases h
      unfold rowText
      rw [List.map_map]
      have := mapM_back hm
      rw [show ((ns.map (Lib.itoa ∘ fun n : Nat => (n : Int)))) = splitC s from this, join_split]
    · cases h
theorem rowText_head {x : List Int} (h1 : 0 < x.length) (h : ∀ z ∈ x, 0 ≤ z ∧ z ≤ 86400000) : endW.isPrefixOf (rowText x) = false := by
  match x, h1 with
  | z :: r, _ =>
    have hz := (h z (List.mem_cons_self ..)).1
    unfold rowText
    rw [List.map_cons, Lib.join_cons]
    have hne : Lib.itoa z ≠ [] := by rw [itoa_pos hz]; exact digits_ne _
    have hno : (101 : UInt8) ∉ Lib.itoa z := fun hm => by
      rw [itoa_pos hz] at hm
      have h2 := (digits_all _ _ hm).2
      revert h2
      decide
    cases hs : Lib.itoa z with
    | nil => exact absurd hs hne
    | cons b t =>
      rw [hs] at hno
      have hb : b ≠ 101 := fun e => hno (by rw [e]; exact List.mem_cons_self ..)
      unfold endW
      simp only [List.cons_append, List.isPrefixOf, Bool.and_eq_false_iff]
      left
      exact beq_eq_false_iff_ne.2 (fun e => hb e.symm)
theorem rowText_no10 {x : List Int} (h : ∀ z ∈ x, 0 ≤ z ∧ z ≤ 86400000) : (10 : UInt8) ∉ rowText x := by
  unfold rowText
  induction x with
  | nil => intro hm; cases hm
  | cons z r ih =>
    have hz := itoa_no (h z (List.mem_cons_self ..)).1 10 (by decide)
    cases r with
    | nil => rw [List.map_cons, List.map_nil, Lib.join_one]; exact hz
    | cons y r =>
      rw [List.map_cons, List.map_cons, join_two]
      intro hm
      rcases List.mem_append.1 hm with hm | hm
      · exact hz hm
      · rcases List.mem_cons.1 hm with hm | hm
        · cases hm
        · exact ih (fun u hu => h u (List.mem_cons_of_mem _ hu)) hm

/-! ### what is read is written to the same -/
theorem inb_le' {a b z : Int} (h : inb a b z = true) : a ≤ z ∧ z ≤ b := by unfold inb at h; simpa using h
theorem mid_back {n : Nat} {st s : RSt} {b : List UInt8} (hn : n ≠ 1) (h : midL n st b = some s) : (s = { st with ended := true } ∧ b = endW ++ Lib.itoa st.rows.length) ∨ (∃ x, s = { st with rows := st.rows ++ [x] } ∧ b = rowText x) := by
  unfold midL at h
  rw [if_neg hn] at h
  split at h
  · rename_i hp
    split at h
    · rename_i hd
      cases h
      left
      refine ⟨rfl, ?_⟩
      obtain ⟨t, ht⟩ := List.isPrefixOf_iff_prefix.1 hp
      subst ht
      have h4 : (endW ++ t).drop 4 = t := rfl
      rw [h4] at hd
      rw [hd]
    · cases h
  · cases hr : rowOf b with
    | none => rw [hr] at h; cases h
    | some x =>
      rw [hr] at h
      dsimp only at h
      split at h
      · cases h
        exact .inr ⟨x, rfl, (text_rowOf hr).symm⟩
      · cases h
theorem readAll_ended {n : Nat} {st st' : RSt} {ls : List (List UInt8)} (he : st.ended = true) (h : readAll n st ls = .ok st') : ls = [] ∧ st' = st := by
  cases ls with
  | nil => cases h; exact ⟨rfl, rfl⟩
  | cons l r =>
    unfold readAll at h
    cases ht : takeL n st l with
    | error e => rw [ht] at h; cases h
    | ok s =>
      have := (take_parts ht).1
      rw [he] at this
      cases this
theorem readAll_back : ∀ {ls : List (List UInt8)} {n : Nat} {st st' : RSt}, 2 ≤ n → st.ended = false → readAll n st ls = .ok st' → st'.ended = true →
    ∃ more, st' = ⟨st.kd, st.rows ++ more, true⟩ ∧ ls = sealsFrom n (more.map rowText ++ [endW ++ Lib.itoa (st.rows ++ more).length])
  | [], _, _, _, _, he, h, he' => by cases h; rw [he] at he'; cases he'
  | l :: r, n, st, st', hn, he, h, he' => by
    unfold readAll at h
    cases ht : takeL n st l with
    | error e => rw [ht] at h; cases h
    | ok s =>
      rw [ht] at h
      dsimp only at h
      obtain ⟨_, hm, hs⟩ := take_parts ht
      rcases mid_back (by omega) hm with ⟨rfl, hb⟩ | ⟨x, rfl, hb⟩
      · obtain ⟨rfl, rfl⟩ := readAll_ended rfl h
        refine ⟨[], by simp, ?_⟩
        rw [List.map_nil, List.nil_append, List.append_nil, ← hb, sealsFrom, sealsFrom, hs]
      · obtain ⟨more, e1, e2⟩ := readAll_back (st := { st with rows := st.rows ++ [x] }) (by omega : 2 ≤ n + 1) he h he'
        refine ⟨x :: more, ?_, ?_⟩
        · rw [e1]; simp
        · rw [e2, List.map_cons, List.cons_append, sealsFrom, ← hb, hs]
          simp
theorem kind_word {b : List UInt8} (h : kindOf b ≠ 0) : b = wordOf (kindOf b) := by
  unfold kindOf at h ⊢
  split
  · rename_i h1; exact h1
  split
  · rename_i h1; exact h1
  split
  · rename_i h1; exact h1
  split
  · rename_i h1; exact h1
  · rename_i h1 h2 h3 h4
    rw [if_neg h1, if_neg h2, if_neg h3, if_neg h4] at h
    exact absurd rfl h
theorem read_write {t : List UInt8} {kd i : Int} {rows : List (List Int)} (h : readR t = ((kd, rows), i, 0)) : i = 0 ∧ sheetB kd rows = true ∧ writeR kd rows = (t, 0) := by
  unfold readR at h
  by_cases hl : 1500 < t.length
  · rw [if_pos hl] at h; simp at h
  rw [if_neg hl] at h
  cases hr : readAll 1 ⟨0, [], false⟩ (cutLines t).1 with
  | error ne =>
    obtain ⟨n, e⟩ := ne
    rw [hr] at h
    have := readAll_err hr
    simp at h
    exact absurd h.2.2 this
  | ok st =>
    rw [hr] at h
    dsimp only at h
    by_cases hc : (cutLines t).2 ≠ [] ∨ st.ended = false
    · rw [if_pos hc] at h; simp at h
    rw [if_neg hc] at h
    have hc1 : (cutLines t).2 = [] := Classical.byContradiction fun e => hc (.inl e)
    have hc2 : st.ended = true := by cases he : st.ended with
      | true => rfl
      | false => exact absurd (.inr he) hc
    cases hb : sheetB st.kd st.rows
    · rw [hb] at h; simp at h
    rw [hb] at h
    simp only [if_true, Prod.mk.injEq] at h
    obtain ⟨⟨rfl, rfl⟩, rfl, _⟩ := h
    refine ⟨rfl, hb, ?_⟩
    have hj := cut_join t
    rw [hc1, List.append_nil] at hj
    cases hls : (cutLines t).1 with
    | nil => rw [hls] at hr; cases hr; cases hc2
    | cons l r =>
      rw [hls] at hr
      unfold readAll at hr
      cases ht : takeL 1 ⟨0, [], false⟩ l with
      | error e => rw [ht] at hr; cases hr
      | ok s =>
        rw [ht] at hr
        obtain ⟨_, hm, hs⟩ := take_parts ht
        unfold midL at hm
        rw [if_pos rfl] at hm
        by_cases hk : kindOf (bodyOf l) = 0
        · rw [if_pos hk] at hm; cases hm
        rw [if_neg hk] at hm
        cases hm
        obtain ⟨more, e1, e2⟩ := readAll_back (by omega : 2 ≤ 1 + 1) rfl hr hc2
        have hlines : sealsFrom 1 (linesOf st.kd st.rows) = l :: r := by
          rw [e1]
          dsimp only
          unfold linesOf
          rw [sealsFrom, ← kind_word hk, hs, e2]
          simp
        unfold writeR
        rw [hb, if_pos rfl, text_seals, hlines, ← hls, hj, if_neg hl]

/-! ### what is written is read to the same -/
theorem readAll_rows (kd : Int) (tail : List (List UInt8)) : ∀ (rows done : List (List Int)) (n : Nat), 2 ≤ n → (∀ x ∈ rows, 0 < x.length ∧ x.length ≤ 5 ∧ ∀ z ∈ x, 0 ≤ z ∧ z ≤ 86400000) → done.length + rows.length ≤ 100 →
    readAll n ⟨kd, done, false⟩ (sealsFrom n (rows.map rowText ++ tail)) = readAll (n + rows.length) ⟨kd, done ++ rows, false⟩ (sealsFrom (n + rows.length) tail)
  | [], done, n, _, _, _ => by simp
  | x :: r, done, n, hn, h, hl => by
    obtain ⟨h1, h5, hz⟩ := h x (List.mem_cons_self ..)
    rw [List.length_cons] at hl
    have hm : midL n ⟨kd, done, false⟩ (rowText x) = some ⟨kd, done ++ [x], false⟩ := by
      unfold midL
      rw [if_neg (by omega), rowText_head h1 hz, rowOf_text h1 h5 hz]
      simp
      omega
    rw [List.map_cons, List.cons_append, sealsFrom, readAll, take_seal_ok rfl hm]
    dsimp only
    rw [readAll_rows kd tail r (done ++ [x]) (n + 1) (by omega) (fun y hy => h y (List.mem_cons_of_mem _ hy)) (by simp; omega)]
    simp [Nat.add_assoc, Nat.add_comm 1]
theorem mid_end_ok (n : Nat) (hn : 2 ≤ n) (kd : Int) (rows : List (List Int)) : midL n ⟨kd, rows, false⟩ (endW ++ Lib.itoa rows.length) = some ⟨kd, rows, true⟩ := by
  unfold midL
  have hp : endW.isPrefixOf (endW ++ Lib.itoa rows.length) = true := List.isPrefixOf_iff_prefix.2 ⟨_, rfl⟩
  have hd : (endW ++ Lib.itoa (rows.length : Int)).drop 4 = Lib.itoa rows.length := rfl
  rw [if_neg (by omega), if_pos hp, if_pos hd]
theorem kind_of_word {kd : Int} (h : inb 1 4 kd = true) : kindOf (wordOf kd) = kd ∧ (10 : UInt8) ∉ wordOf kd := by
  have h1 := inb_le' h
  have : kd = 1 ∨ kd = 2 ∨ kd = 3 ∨ kd = 4 := by omega
  rcases this with rfl | rfl | rfl | rfl <;> decide
theorem ice_few : ∀ (l : List (List Int)) (i : Nat) (last : List Int), rowsOk 3 i last l = true → (i ≠ 0 → (0 ≤ nth last 0 ∧ nth last 0 ≤ 7) ∧ 0 ≤ nth last 1 ∧ nth last 1 ≤ 11) → (l.length : Int) + (if i = 0 then 0 else nth last 0 * 12 + nth last 1 + 1) ≤ 96
  | [], i, last, _, h => by
    by_cases h0 : i = 0
    · simp [h0]
    · have := h h0
      simp [h0]
      omega
  | x :: r, i, last, hr, h => by
    unfold rowsOk at hr
    simp only [Bool.and_eq_true] at hr
    obtain ⟨⟨_, hx⟩, hr⟩ := hr
    have hx2 : iceRow i x last = true := hx
    unfold iceRow at hx2
    simp only [Bool.and_eq_true, Bool.or_eq_true, decide_eq_true_eq] at hx2
    obtain ⟨⟨⟨⟨⟨⟨b0, b1⟩, _⟩, _⟩, _⟩, _⟩, hs⟩ := hx2
    have b0 := inb_le' b0
    have b1 := inb_le' b1
    have ih := ice_few r (i + 1) x hr (fun _ => ⟨⟨by omega, by omega⟩, by omega, by omega⟩)
    rw [if_neg (by omega)] at ih
    rw [List.length_cons]
    by_cases h0 : i = 0
    · rw [if_pos h0]; push_cast; omega
    · rw [if_neg h0]
      have hl := h h0
      have hs2 := hs.resolve_left h0
      unfold shLess at hs2
      simp only [Bool.or_eq_true, Bool.and_eq_true, decide_eq_true_eq] at hs2
      push_cast
      omega
theorem rows_few {kd : Int} {rows : List (List Int)} (hb : sheetB kd rows = true) : rows.length ≤ 96 := by
  unfold sheetB at hb
  simp only [Bool.and_eq_true] at hb
  obtain ⟨hk, hm, hr, _⟩ := hb
  have h1 := inb_le' hk
  have : kd = 1 ∨ kd = 2 ∨ kd = 3 ∨ kd = 4 := by omega
  rcases this with rfl | rfl | rfl | rfl
  · unfold manyOk at hm; simp at hm; omega
  · unfold manyOk at hm; simp at hm; omega
  · have := ice_few rows 0 [] hr (fun h => absurd rfl h)
    simp at this
    omega
  · unfold manyOk at hm; simp at hm; omega
theorem rows_pos {kd : Int} : ∀ {l : List (List Int)} {i : Nat} {last : List Int}, rowsOk kd i last l = true → ∀ x ∈ l, 0 < x.length
  | [], _, _, _, x, hx => by cases hx
  | y :: r, i, last, h, x, hx => by
    unfold rowsOk at h
    simp only [Bool.and_eq_true, decide_eq_true_eq] at h
    rcases List.mem_cons.1 hx with rfl | hx
    · rw [h.1.1]; unfold colsOf; split <;> decide
    · exact rows_pos h.2 x hx
theorem lines_no10 {kd : Int} {rows : List (List Int)} (hk : inb 1 4 kd = true) (h : ∀ x ∈ rows, x.length ≤ 5 ∧ ∀ z ∈ x, 0 ≤ z ∧ z ≤ 86400000) : ∀ l ∈ linesOf kd rows, (10 : UInt8) ∉ l := by
  intro l hl
  unfold linesOf at hl
  rcases List.mem_cons.1 hl with rfl | hl
  · exact (kind_of_word hk).2
  · rcases List.mem_append.1 hl with hl | hl
    · obtain ⟨x, hx, rfl⟩ := List.mem_map.1 hl
      exact rowText_no10 (h x hx).2
    · obtain rfl := List.mem_singleton.1 hl
      intro hm
      rcases List.mem_append.1 hm with hm | hm
      · revert hm; decide
      · exact itoa_no (by omega) 10 (by decide) hm
theorem count_lines : ∀ (ls : List (List UInt8)), (∀ l ∈ ls, (10 : UInt8) ∉ l) → (ls.flatMap (· ++ [10])).count 10 = ls.length
  | [], _ => rfl
  | l :: r, h => by
    rw [List.flatMap_cons, List.count_append, List.count_append, List.count_eq_zero.2 (h l (List.mem_cons_self ..)), count_lines r fun y hy => h y (List.mem_cons_of_mem _ hy), List.length_cons]
    simp
    omega
theorem write_read {kd : Int} {rows : List (List Int)} (hb : sheetB kd rows = true) (hl : (textFrom 1 (linesOf kd rows)).length ≤ 1500) :
    readR (textFrom 1 (linesOf kd rows)) = ((kd, rows), 0, 0) ∧ (textFrom 1 (linesOf kd rows)).count 10 = rows.length + 2 := by
  have hfew := rows_few hb
  have hnum := sheetB_nums hb (by omega)
  have hb2 := hb
  unfold sheetB at hb2
  simp only [Bool.and_eq_true] at hb2
  obtain ⟨hk, _, hr, _⟩ := hb2
  have hpos := rows_pos hr
  have hno := seals_no10 (linesOf kd rows) 1 (lines_no10 hk hnum)
  have hcut := cut_of_lines _ hno
  have hcnt := count_lines _ hno
  rw [← text_seals] at hcut hcnt
  refine ⟨?_, by rw [hcnt, seals_len, linesOf]; simp⟩
  have hall : readAll 1 ⟨0, [], false⟩ (sealsFrom 1 (linesOf kd rows)) = .ok ⟨kd, rows, true⟩ := by
    have hm : midL 1 ⟨0, [], false⟩ (wordOf kd) = some ⟨kd, [], false⟩ := by
      unfold midL
      have hkd := inb_le' hk
      rw [if_pos rfl, (kind_of_word hk).1, if_neg (by omega)]
    unfold linesOf
    rw [sealsFrom, readAll, take_seal_ok rfl hm]
    dsimp only
    rw [readAll_rows kd _ rows [] 2 (by omega) (fun x hx => ⟨hpos x hx, hnum x hx⟩) (by simp; omega), List.nil_append, sealsFrom, readAll, take_seal_ok rfl (mid_end_ok _ (by omega) kd rows)]
    rfl
  unfold readR
  rw [if_neg (by omega), hcut]
  dsimp only
  rw [hall]
  dsimp only
  rw [if_neg (by simp), if_pos hb]

/-! ### line feeds -/
/-- Where the line feeds of a text are, with its begin at k. -/
def endsN : Nat → List UInt8 → List Int
  | _, [] => []
  | k, b :: r => if b = 10 then (k : Int) :: endsN (k + 1) r else endsN (k + 1) r
theorem endsN_snoc (y : UInt8) : ∀ (l : List UInt8) (k : Nat), endsN k (l ++ [y]) = endsN k l ++ if y = 10 then [((k + l.length : Nat) : Int)] else []
  | [], k => by by_cases h : y = 10 <;> simp [endsN, h]
  | b :: r, k => by
    rw [List.cons_append, endsN, endsN, endsN_snoc y r (k + 1), List.length_cons, show k + 1 + r.length = k + (r.length + 1) by omega]
    split <;> rfl
theorem endsN_len : ∀ (l : List UInt8) (k : Nat), (endsN k l).length = l.count 10
  | [], k => rfl
  | b :: r, k => by
    rw [endsN]
    by_cases h : b = 10
    · subst h; simp [endsN_len r (k + 1)]
    · rw [if_neg h, endsN_len r (k + 1), List.count_cons_of_ne (by simpa using h)]
theorem endsN_ge : ∀ (l : List UInt8) (k : Nat), ∀ z ∈ endsN k l, (k : Int) ≤ z ∧ z < ((k + l.length : Nat) : Int)
  | [], k, z, h => by cases h
  | b :: r, k, z, h => by
    rw [endsN] at h
    have ih := endsN_ge r (k + 1)
    rw [List.length_cons]
    split at h
    · rcases List.mem_cons.1 h with rfl | h
      · omega
      · have := ih z h; omega
    · have := ih z h; omega
/-- How many of them are ahead of a place. -/
theorem endsN_before : ∀ (l : List UInt8) (k i : Nat), (endsN k l).countP (fun z => decide (z < ((k + i : Nat) : Int))) = (l.take i).count 10
  | [], k, i => by simp [endsN]
  | b :: r, k, 0 => by
    rw [List.take_zero, List.count_nil, List.countP_eq_zero]
    intro z hz
    have := (endsN_ge (b :: r) k z hz).1
    simp
    omega
  | b :: r, k, i + 1 => by
    have ih := endsN_before r (k + 1) i
    rw [show k + 1 + i = k + (i + 1) by omega] at ih
    rw [endsN, List.take_succ_cons]
    by_cases h : b = 10
    · subst h
      rw [if_pos rfl, List.countP_cons, ih, List.count_cons_self, if_pos (by simp; omega)]
    · rw [if_neg h, ih, List.count_cons_of_ne (by simpa using h)]
theorem ends_step {l : List UInt8} {k : Nat} {y : UInt8} (h : l[k]? = some y) : endsN 0 (l.take (k + 1)) = endsN 0 (l.take k) ++ if y = 10 then [(k : Int)] else [] := by
  have hk := (List.getElem?_eq_some_iff.1 h).1
  rw [List.take_add_one, h, Option.toList_some, endsN_snoc, List.length_take, Nat.min_eq_left (by omega), Nat.zero_add]

end Kr

/-
  Walks of the laws' package of sheets: sum, ready, ends.
-/
namespace Go.Proofs.YtkgchngaganokaaGreatDoor
open Go.RowKit Kr
set_option linter.unusedSimpArgs false
set_option linter.unusedVariables false

theorem l11_sum_any (n : Int) (s : ByteArray) (x : Int) (w : World) (h : sumR n s.data.toList = (x, 0)) :
    Calls Tryz.prog 25 #[.int .i64 n, .string s, .int .i64 x] w fun e w' => e = .returned (.bool true) ∧ w.Exts w' := by
  have hs := fun (W : World) => sheet_Sum_any n s W
  rw [h] at hs
  have HS := Lib.hid hs
  clear hs
  clear h
  go_enter Tryz.func25, Tryz.ntmps25
  go_wp2_with (go_at_call 20; refine (HS.out _).mono ?_; rintro e w' ⟨rfl, X2, rfl⟩)
  go_ret
  exact ⟨rfl, exq⟩

theorem l11_ready_any (kd : Int) (ps : List (List Int × Value)) (v : Value) (w : World) (h : ListsAt w v ps) (hc : ColsAt w) (hk : 0 ≤ kd ∧ kd ≤ 255) :
    Calls Tryz.prog 10 #[.agg #[.int .u8 kd, v]] w fun e w' => e = .returned (.bool (!greatS (ps.map Prod.fst) && sheetB kd (ps.map Prod.fst))) ∧ w.Exts w' := by
  obtain ⟨q, cap, hv⟩ := h.row.len
  subst hv
  have hgr := fun (W : World) (hE : w.Exts W) => r11_Great_any kd ps _ W (h.mono hE)
  cases hg : greatS (ps.map Prod.fst)
  · rw [hg] at hgr
    have hl := (greatS_false hg).1
    rw [List.length_map] at hl
    have hsh := fun (W : World) (hE : w.Exts W) => r11_Sheet_any kd ps _ W (h.mono hE) (by omega) (hc.mono hE) hk
    have HGR := Lib.hid hgr
    clear hgr
    have HSH := Lib.hid hsh
    clear hsh
    clear h hc hg
    go_enter Tryz.func10, Tryz.ntmps10
    go_wp2_with (first | (go_at_call 26; refine (HGR.out _ exq).mono ?_; rintro e w' ⟨rfl, X2, rfl⟩) | (go_at_call 23; refine (HSH.out _ exq).mono ?_; rintro e w' ⟨rfl, X3, rfl⟩))
    go_ret
    exact ⟨by simp, exq⟩
  · rw [hg] at hgr
    have HGR := Lib.hid hgr
    clear hgr
    clear h hc hg
    go_enter Tryz.func10, Tryz.ntmps10
    go_wp2_with (go_at_call 26; refine (HGR.out _ exq).mono ?_; rintro e w' ⟨rfl, X2, rfl⟩)
    go_ret
    exact ⟨by simp, exq⟩

set_option maxHeartbeats 2000000 in
theorem l11_ends_row (s : ByteArray) (w : World) (hs : s.size ≤ 5000) :
    Calls Tryz.prog 14 #[.string s] w fun e w' => (∃ v, e = .returned v ∧ IsRow (fun x : Int => [.int .i64 x]) 1 w' v (endsN 0 s.data.toList) ∧ ∀ b, v.ownBlock = some b → w.heap.size ≤ b) ∧ w.Exts w' := by
  obtain ⟨R, hR⟩ : ∃ r, endsN 0 s.data.toList = r := ⟨_, rfl⟩
  rw [hR]
  have HR := Lib.hid hR
  clear hR
  go_enter Tryz.func14, Tryz.ntmps14
  go_wp2_with fail
  go_loopw [3, 4, 7] (fun row _ i wr => ∃ (k : Nat) (l : List Int), k ≤ s.size ∧ i = .int .i64 k ∧ Hid (l = endsN 0 (s.data.toList.take k)) ∧ l.length ≤ k ∧ Hid (wr.ownsRow w.heap.size 3 1 row l.length (l.flatMap fun x => [.int .i64 x])) ∧ w.Exts wr) (fun _ _ i _ => s.size - (intOf i).toNat)
  case atStart => exact ⟨0, [], Nat.zero_le _, rfl, Lib.hid (by simp [endsN]), by simp, Lib.hid (World.ownsRow_nil _ _ _ _), World.Exts.refl _⟩
  case round =>
    obtain ⟨k, l, hk, rfl, hl, hlk, hown, X3, rfl⟩ := hrel
    obtain ⟨nl, hnl⟩ : ∃ t, l.length = t := ⟨_, rfl⟩
    have hown2 := hown.out
    rw [hnl] at hown2 hlk
    have hl2 := hl.out
    obtain ⟨qv, cv, hv⟩ := owns_len hown2
    subst hv
    have HO2 := Lib.hid hown2
    clear hown2
    have HNL := Lib.hid hnl
    clear hnl
    clear hl hown
    rcases Nat.lt_or_ge k s.size with hlt | hge
    · have w1 : (k : Int) < (s.size : Int) := by omega
      have gy := tx_get hlt
      obtain ⟨y, ey⟩ : ∃ y, s[k]'hlt = y := ⟨_, rfl⟩
      rw [ey] at gy
      have hst := ends_step gy
      rw [← hl2] at hst
      by_cases hy : y = 10
      · subst hy
        rw [if_pos rfl] at hst
        have HST := Lib.hid hst
        clear hst
        clear hl2 gy
        go_wp2_with (at_builtin; refine wpList_append1W (.tmp 14) (.tmp 16) elem_int rfl rfl rfl (ownsRow_exts HO2.out exq) [.int .i64 (k : Int)] _ (by simp) rfl rfl ?j1 ?j2 ?j4 ?j3 ?_)
        case j1 => intro u hu; simp at hu; subst hu; rfl
        case j2 => omega
        try (case j4 => decide)
        case j3 => exact World.Exts.size exq
        intro v' w' hown' happ
        have hE8 := happ.exts w exq (Nat.le_refl _)
        have HO3 := Lib.hid hown'
        clear hown'
        have HE8 := Lib.hid hE8
        clear hE8
        clear happ
        go_wp2_with fail
        go_roundw
        case rel => exact ⟨k + 1, l ++ [(k : Int)], by omega, by go_num, Lib.hid HST.out.symm, by rw [List.length_append, HNL.out]; simp; omega, Lib.hid (by rw [List.length_append, HNL.out, List.flatMap_append]; exact HO3.out), HE8.out⟩
        case measure => simp [intOf]; omega
      · rw [if_neg hy, List.append_nil] at hst
        have y1 : ¬ ((y.toNat : Nat) : Int) = 10 := fun e => hy (UInt8.toNat.inj (by have : (10 : UInt8).toNat = 10 := rfl; omega))
        have y2 : (((y.toNat : Nat) : Int) == 10) = false := by rw [beq_eq_false_iff_ne]; exact y1
        have HST := Lib.hid hst
        clear hst
        clear hl2 gy
        go_wp2_with fail
        go_roundw
        case rel => exact ⟨k + 1, l, by omega, by go_num, Lib.hid HST.out.symm, by rw [HNL.out]; omega, Lib.hid (by rw [HNL.out]; exact ownsRow_exts HO2.out exq), exq⟩
        case measure => simp [intOf]; omega
    · have w1 : ¬ (k : Int) < (s.size : Int) := by omega
      have hfin : l = R := by rw [← HR.out, hl2, List.take_of_length_le (by rw [tx_len]; omega)]
      have HFIN := Lib.hid hfin
      clear hfin
      clear hl2
      go_wp2_with fail
      go_ret
      exact ⟨⟨_, rfl, by rw [← HFIN.out]; exact IsRow.of_owns (by rw [HNL.out]; exact ownsRow_exts HO2.out exq) fun _ _ => rfl, fun b hb => (HO2.out.lt b hb).1⟩, exq⟩
theorem l11_ends_any (s : ByteArray) (w : World) (hs : s.size ≤ 5000) :
    Calls Tryz.prog 14 #[.string s] w fun e w' => (∃ q c, e = .returned (.slice q (s.data.toList.count 10) c)) ∧ w.Exts w' := by
  refine (l11_ends_row s w hs).mono ?_
  rintro e w' ⟨⟨v, rfl, hr, _⟩, hE⟩
  obtain ⟨q, c, rfl⟩ := hr.len
  rw [endsN_len]
  exact ⟨⟨q, c, rfl⟩, hE⟩
end Go.Proofs.YtkgchngaganokaaGreatDoor

/-
  The law SheetWritten: its walk; the laws' alive.
-/
namespace Kr
theorem write_empty : textFrom 1 (linesOf 2 []) = [115, 116, 97, 114, 116, 32, 49, 51, 57, 10, 101, 110, 100, 32, 48, 32, 50, 51, 50, 10] := by
  have h0 : Go.Lib.itoa (([] : List (List Int)).length : Int) = [48] := by
    rw [itoa_nat]
    exact digits_one (by decide)
  unfold linesOf
  rw [h0]
  decide +kernel
theorem write_none : writeR 2 [] = ([115, 116, 97, 114, 116, 32, 49, 51, 57, 10, 101, 110, 100, 32, 48, 32, 50, 51, 50, 10], 0) := by
  unfold writeR
  rw [write_empty]
  decide +kernel
theorem read_none : readR [115, 116, 97, 114, 116, 32, 49, 51, 57, 10, 101, 110, 100, 32, 48, 32, 50, 51, 50, 10] = ((2, []), 0, 0) := by
  have h := (write_read (kd := 2) (rows := []) (by decide +kernel) (by rw [write_empty]; decide +kernel)).1
  rw [write_empty] at h
  exact h
theorem repair_one : repairR [114, 63, 100, 101, 32, 48, 48, 55, 10] = (([114, 105, 100, 101, 32, 48, 48, 55, 10], [1]), 0) := by decide +kernel
end Kr
namespace Go.Proofs.YtkgchngaganokaaGreatDoor
open Go.RowKit Kr
set_option linter.unusedSimpArgs false
set_option linter.unusedVariables false

set_option maxRecDepth 4000 in
set_option maxHeartbeats 4000000 in
theorem l11_alive_any (w : World) (hw : LibAt w) : Calls Tryz.prog 9 #[] w fun e w' => e = .returned (.bool true) ∧ w.Exts w' := by
  have hwr : ∀ W : World, w.Exts W → Calls Tryz.prog 11 #[.agg #[.int .u8 2, .slice none 0 0]] W fun e w' => e = .returned (.tuple #[.string ⟨#[115, 116, 97, 114, 116, 32, 49, 51, 57, 10, 101, 110, 100, 32, 48, 32, 50, 51, 50, 10]⟩, .int .i64 0]) ∧ W.Exts w' := fun W hE => by
    have h := sheet_Write_any ice_fn 2 [] (.slice none 0 0) W (lists_none W) (by simp) (by decide) (hw.mono hE)
    rw [List.map_nil, write_none] at h
    exact h.mono fun e w' h2 => h2.det
  have hrd : ∀ W : World, w.Exts W → Calls Tryz.prog 12 #[.string ⟨#[115, 116, 97, 114, 116, 32, 49, 51, 57, 10, 101, 110, 100, 32, 48, 32, 50, 51, 50, 10]⟩] W fun e w' => ∃ q c, e = .returned (.tuple #[.agg #[.int .u8 2, .slice q 0 c], .int .i64 0, .int .i64 0]) ∧ W.Exts w' := fun W hE => by
    have h := sheet_Read_any ice_fn ⟨#[115, 116, 97, 114, 116, 32, 49, 51, 57, 10, 101, 110, 100, 32, 48, 32, 50, 51, 50, 10]⟩ W (hw.mono hE)
    rw [show (⟨#[115, 116, 97, 114, 116, 32, 49, 51, 57, 10, 101, 110, 100, 32, 48, 32, 50, 51, 50, 10]⟩ : ByteArray).data.toList = [115, 116, 97, 114, 116, 32, 49, 51, 57, 10, 101, 110, 100, 32, 48, 32, 50, 51, 50, 10] from rfl, read_none] at h
    refine h.mono fun e w' h2 => ?_
    obtain ⟨q, c, ps, rfl, _, hm, hE2⟩ := h2.det
    obtain rfl : ps = [] := List.map_eq_nil_iff.1 hm
    exact ⟨q, c, rfl, hE2⟩
  have hrp : ∀ W : World, w.Exts W → Calls Tryz.prog 17 #[.string ⟨#[114, 63, 100, 101, 32, 48, 48, 55, 10]⟩] W fun e w' => ∃ q c, e = .returned (.tuple #[.string ⟨#[114, 105, 100, 101, 32, 48, 48, 55, 10]⟩, .slice q 1 c, .int .i64 0]) ∧ IsRow (fun x : Int => [.int .i64 x]) 1 w' (.slice q 1 c) [1] ∧ W.Exts w' := fun W hE => by
    have h := sheet_Repair_any ⟨#[114, 63, 100, 101, 32, 48, 48, 55, 10]⟩ W (hw.mono hE)
    rw [show (⟨#[114, 63, 100, 101, 32, 48, 48, 55, 10]⟩ : ByteArray).data.toList = [114, 63, 100, 101, 32, 48, 48, 55, 10] from rfl, repair_one] at h
    exact h.mono fun e w' h2 => h2.det
  have hs1 := fun (W : World) => l11_sum_any 1 ⟨#[114, 105, 100, 101]⟩ 7 W (by decide +kernel)
  have hs2 := fun (W : World) => l11_sum_any 2 ⟨#[49, 48, 48, 48, 48, 44, 50, 48, 48, 48, 48]⟩ 89 W (by decide +kernel)
  have HWR := Lib.hid hwr
  clear hwr
  have HRD := Lib.hid hrd
  clear hrd
  have HRP := Lib.hid hrp
  clear hrp
  have HS1 := Lib.hid hs1
  clear hs1
  have HS2 := Lib.hid hs2
  clear hs2
  clear hw
  go_enter Tryz.func9, Tryz.ntmps9
  go_wp2_with (first
    | (go_at_call 11; refine (HWR.out _ exq).mono ?_; rintro e w' ⟨rfl, X2, rfl⟩)
    | (go_at_call 12; refine (HRD.out _ exq).mono ?_; rintro e w' ⟨q1, c1, rfl, X3, rfl⟩)
    | (go_at_call 17; refine (HRP.out _ exq).mono ?_; rintro e w' ⟨q2, c2, rfl, hz, X4, rfl⟩; have HZ := Lib.hid hz; clear hz)
    | (go_at_call 25; (with_reducible refine (HS1.out _).mono ?_); rintro e w' ⟨rfl, X5, rfl⟩)
    | (go_at_call 25; (with_reducible refine (HS2.out _).mono ?_); rintro e w' ⟨rfl, X6, rfl⟩)
    | (go_at_call 18; refine (r01_SameInts_any [1] _ _ _ (HZ.out.mono exq) (row_one _ _)).mono ?_; rintro e w' ⟨rfl, X7, rfl⟩))
  go_ret
  exact ⟨rfl, exq⟩
end Go.Proofs.YtkgchngaganokaaGreatDoor

/-
  Sheets: texts of written sheets whose lines are cut, changed, or put together otherwise. Plain laws.
-/
namespace Kr
open Go
set_option linter.unusedSimpArgs false
set_option linter.unusedVariables false

/-- What was read after k lines of a written sheet. -/
def stAt (kd : Int) (rows : List (List Int)) (k : Nat) : RSt := if k = 0 then ⟨0, [], false⟩ else ⟨kd, rows.take (k - 1), decide (rows.length + 1 < k)⟩
theorem stAt_open {kd : Int} {rows : List (List Int)} {k : Nat} (h : k < rows.length + 2) : (stAt kd rows k).ended = false := by
  unfold stAt
  split
  · rfl
  · simp; omega
theorem seals_get : ∀ (ls : List (List UInt8)) (n k : Nat), (sealsFrom n ls)[k]? = (ls[k]?).map (sealT (n + k))
  | [], n, k => by simp [sealsFrom]
  | l :: r, n, 0 => by simp [sealsFrom]
  | l :: r, n, k + 1 => by
    rw [sealsFrom, List.getElem?_cons_succ, List.getElem?_cons_succ, seals_get r (n + 1) k, show n + 1 + k = n + (k + 1) by omega]
/-- A sheet that is valid, with its lines. -/
structure Written (kd : Int) (rows : List (List Int)) : Prop where
  ok : sheetB kd rows = true
theorem Written.few {kd : Int} {rows : List (List Int)} (h : Written kd rows) : rows.length ≤ 96 := rows_few h.ok
theorem Written.nums {kd : Int} {rows : List (List Int)} (h : Written kd rows) : ∀ x ∈ rows, 0 < x.length ∧ x.length ≤ 5 ∧ ∀ z ∈ x, 0 ≤ z ∧ z ≤ 86400000 := fun x hx => by
  have hb := h.ok
  unfold sheetB at hb
  simp only [Bool.and_eq_true] at hb
  exact ⟨rows_pos hb.2.2.1 x hx, sheetB_nums h.ok (by have := h.few; omega) x hx⟩
theorem Written.kind {kd : Int} {rows : List (List Int)} (h : Written kd rows) : inb 1 4 kd = true := by
  have hb := h.ok
  unfold sheetB at hb
  simp only [Bool.and_eq_true] at hb
  exact hb.1
/-- The lines with their check numbers. -/
def sealsOf (kd : Int) (rows : List (List Int)) : List (List UInt8) := sealsFrom 1 (linesOf kd rows)
theorem sealsOf_len (kd : Int) (rows : List (List Int)) : (sealsOf kd rows).length = rows.length + 2 := by rw [sealsOf, seals_len, lines_len]
theorem sealsOf_text (kd : Int) (rows : List (List Int)) : textFrom 1 (linesOf kd rows) = (sealsOf kd rows).flatMap (· ++ [10]) := text_seals _ _
theorem Written.no10 {kd : Int} {rows : List (List Int)} (h : Written kd rows) : ∀ l ∈ sealsOf kd rows, (10 : UInt8) ∉ l := seals_no10 _ 1 (lines_no10 h.kind fun x hx => (h.nums x hx).2)
/-- The three kinds of lines. -/
theorem lines_at {kd : Int} {rows : List (List Int)} {k : Nat} (hk : k < rows.length + 2) :
    ((k = 0 ∧ (linesOf kd rows)[k]? = some (wordOf kd)) ∨ (∃ x, 0 < k ∧ rows[k - 1]? = some x ∧ (linesOf kd rows)[k]? = some (rowText x))) ∨ (k = rows.length + 1 ∧ (linesOf kd rows)[k]? = some (endW ++ Lib.itoa rows.length)) := by
  rcases Nat.eq_zero_or_pos k with h0 | h0
  · subst h0; exact .inl (.inl ⟨rfl, rfl⟩)
  obtain ⟨m, rfl⟩ : ∃ m, k = m + 1 := ⟨k - 1, by omega⟩
  have e : (linesOf kd rows)[m + 1]? = (rows.map rowText ++ [endW ++ Lib.itoa rows.length])[m]? := by rw [linesOf, List.getElem?_cons_succ]
  rcases Nat.lt_or_ge m rows.length with hm | hm
  · refine .inl (.inr ⟨rows[m], by omega, by rw [Nat.add_sub_cancel]; exact List.getElem?_eq_getElem hm, ?_⟩)
    rw [e, List.getElem?_append_left (by rw [List.length_map]; exact hm), List.getElem?_map, List.getElem?_eq_getElem hm]
    rfl
  · obtain rfl : m = rows.length := by omega
    refine .inr ⟨rfl, ?_⟩
    rw [e, List.getElem?_append_right (by rw [List.length_map]; exact Nat.le_refl _), List.length_map, Nat.sub_self]
    rfl
theorem take_step {kd : Int} {rows : List (List Int)} (h : Written kd rows) {k : Nat} {b : List UInt8} (hb : (linesOf kd rows)[k]? = some b) : takeL (k + 1) (stAt kd rows k) (sealT (k + 1) b) = .ok (stAt kd rows (k + 1)) := by
  have hk : k < rows.length + 2 := by rw [← lines_len kd rows]; exact (List.getElem?_eq_some_iff.1 hb).1
  refine take_seal_ok (stAt_open hk) ?_
  rcases lines_at (kd := kd) hk with (⟨rfl, h1⟩ | ⟨x, h0, hx, h1⟩) | ⟨h0, h1⟩
  · rw [h1] at hb
    cases hb
    have hkd := inb_le' h.kind
    have e : stAt kd rows 0 = ⟨0, [], false⟩ := rfl
    have e2 : stAt kd rows (0 + 1) = ⟨kd, [], false⟩ := by unfold stAt; rw [if_neg (by omega)]; simp
    rw [e, e2]
    unfold midL
    rw [if_pos rfl, (kind_of_word h.kind).1, if_neg (by omega)]
  · rw [h1] at hb
    cases hb
    obtain ⟨p1, p5, pz⟩ := h.nums x (List.mem_of_getElem? hx)
    have hl := (List.getElem?_eq_some_iff.1 hx).1
    have hf := h.few
    have e : stAt kd rows k = ⟨kd, rows.take (k - 1), false⟩ := by unfold stAt; rw [if_neg (by omega)]; simp; omega
    have e2 : stAt kd rows (k + 1) = ⟨kd, rows.take (k - 1) ++ [x], false⟩ := by
      unfold stAt
      rw [if_neg (by omega), Nat.add_sub_cancel]
      have : rows.take k = rows.take (k - 1) ++ [x] := by
        conv => lhs; rw [show k = (k - 1) + 1 by omega]
        rw [List.take_add_one, hx]
        rfl
      rw [this]
      simp
      omega
    rw [e, e2]
    unfold midL
    rw [if_neg (by omega), rowText_head p1 pz, rowOf_text p1 p5 pz]
    simp
    omega
  · rw [h1] at hb
    cases hb
    subst h0
    have e : stAt kd rows (rows.length + 1) = ⟨kd, rows, false⟩ := by unfold stAt; rw [if_neg (by omega)]; simp
    have e2 : stAt kd rows (rows.length + 1 + 1) = ⟨kd, rows, true⟩ := by unfold stAt; rw [if_neg (by omega)]; simp; rw [List.take_of_length_le (by omega)]
    rw [e, e2]
    exact mid_end_ok _ (by omega) kd rows
theorem sealsOf_get {kd : Int} {rows : List (List Int)} {k : Nat} (hk : k < rows.length + 2) : ∃ b, (linesOf kd rows)[k]? = some b ∧ (sealsOf kd rows)[k]? = some (sealT (k + 1) b) := by
  obtain ⟨b, hb⟩ : ∃ b, (linesOf kd rows)[k]? = some b := ⟨_, List.getElem?_eq_getElem (by rw [lines_len]; exact hk)⟩
  exact ⟨b, hb, by rw [sealsOf, seals_get, hb, Nat.add_comm 1 k]; rfl⟩
theorem read_pre {kd : Int} {rows : List (List Int)} (h : Written kd rows) (rest : List (List UInt8)) : ∀ j, j ≤ rows.length + 2 → readAll 1 ⟨0, [], false⟩ ((sealsOf kd rows).take j ++ rest) = readAll (j + 1) (stAt kd rows j) rest := by
  intro j
  induction j generalizing rest with
  | zero => intro _; rfl
  | succ j ih =>
    intro hj
    obtain ⟨b, hb, hs⟩ := sealsOf_get (kd := kd) (show j < rows.length + 2 by omega)
    rw [List.take_add_one, hs, Option.toList_some, List.append_assoc, ih _ (by omega), List.singleton_append, readAll, take_step h hb]
theorem cut_app : ∀ (ls : List (List UInt8)) (tl : List UInt8), (∀ l ∈ ls, (10 : UInt8) ∉ l) → (10 : UInt8) ∉ tl → cutLines (ls.flatMap (· ++ [10]) ++ tl) = (ls, tl)
  | [], tl, _, h => by rw [List.flatMap_nil, List.nil_append]; exact cut_miss (by rw [List.idxOf_lt_length_iff]; exact h)
  | l :: r, tl, hl, h => by
    have h1 := hl l (List.mem_cons_self ..)
    have hi : (l ++ [10] ++ (r.flatMap (· ++ [10]) ++ tl)).idxOf 10 = l.length := by
      rw [List.append_assoc, List.idxOf_append, if_neg h1]
      simp
    rw [List.flatMap_cons, List.append_assoc, cut_hit (by rw [hi]; simp), hi]
    have e1 : (l ++ [10] ++ (r.flatMap (· ++ [10]) ++ tl)).take l.length = l := by simp
    have e2 : (l ++ [10] ++ (r.flatMap (· ++ [10]) ++ tl)).drop (l.length + 1) = r.flatMap (· ++ [10]) ++ tl := by
      rw [List.append_assoc, List.drop_append]
      simp
    rw [e1, e2, cut_app r tl (fun y hy => hl y (List.mem_cons_of_mem _ hy)) h]
/-- Lines that begin as written ones, and end too early. -/
theorem read_short {kd : Int} {rows : List (List Int)} (h : Written kd rows) {j : Nat} (hj : j < rows.length + 2) {tl t : List UInt8} (ht : (10 : UInt8) ∉ tl) (hl : t.length ≤ 1500) (e : t = ((sealsOf kd rows).take j).flatMap (· ++ [10]) ++ tl) : readR t = ((0, []), ((j + 1 : Nat) : Int), 111) := by
  unfold readR
  have hp := read_pre h [] j (by omega)
  rw [List.append_nil] at hp
  rw [if_neg (by omega), e, cut_app _ _ (fun l hm => h.no10 l (List.mem_of_mem_take hm)) ht]
  dsimp only
  rw [hp, readAll]
  dsimp only
  rw [if_pos (.inr (stAt_open hj)), List.length_take, sealsOf_len, Nat.min_eq_left (by omega)]
  rfl
/-- Lines that begin as written ones, of which the next one is wrong. -/
theorem read_wrong {kd : Int} {rows : List (List Int)} (h : Written kd rows) {j : Nat} (hj : j ≤ rows.length + 2) {l tl t : List UInt8} {r : List (List UInt8)} {x : Int} (hr : ∀ y ∈ l :: r, (10 : UInt8) ∉ y) (ht : (10 : UInt8) ∉ tl) (hl : t.length ≤ 1500) (e : t = ((sealsOf kd rows).take j ++ l :: r).flatMap (· ++ [10]) ++ tl) (hx : takeL (j + 1) (stAt kd rows j) l = .error x) : readR t = ((0, []), ((j + 1 : Nat) : Int), x) := by
  unfold readR
  rw [if_neg (by omega), e, cut_app _ _ (fun y hm => by
    rcases List.mem_append.1 hm with hm | hm
    · exact h.no10 y (List.mem_of_mem_take hm)
    · exact hr y hm) ht]
  dsimp only
  rw [read_pre h _ j hj, readAll, hx]
/-- A line whose check number is another one is wrong. -/
theorem take_wrong {n : Nat} {st : RSt} {l : List UInt8} (h : sealT n (bodyOf l) ≠ l) : ∃ e, takeL n st l = .error e ∧ (e = 111 ∨ e = 112) := by
  unfold takeL
  split
  · exact ⟨_, rfl, .inl rfl⟩
  · split
    · exact ⟨_, rfl, .inl rfl⟩
    · first | exact ⟨_, rfl, .inr rfl⟩ | (rw [if_neg h]; exact ⟨_, rfl, .inr rfl⟩)
theorem three_inj {a b : Nat} (ha : a < 257) (hb : b < 257) (h : three a = three b) : a = b := by
  unfold three at h
  simp only [List.cons.injEq, and_true] at h
  obtain ⟨h1, h2, h3⟩ := h
  have k1 := congrArg UInt8.toNat h1
  have k2 := congrArg UInt8.toNat h2
  have k3 := congrArg UInt8.toNat h3
  unfold dig at k1 k2 k3
  rw [dig_is (by omega), dig_is (by omega)] at k1 k2 k3
  omega
theorem seal_inj {n m : Nat} {a b : List UInt8} (h : sealT n a = sealT m b) : a = b ∧ sumT n a = sumT m b := by
  have hl := congrArg List.length h
  rw [seal_len, seal_len] at hl
  unfold sealT at h
  obtain ⟨h1, h2⟩ := List.append_inj h (by omega)
  exact ⟨h1, three_inj (sumT_lt _ _) (sumT_lt _ _) (List.cons.inj h2).2⟩
/-- A line in another's place. -/
theorem seal_moved {n m : Nat} (b : List UInt8) (h : n ≠ m) (hn : n < 257) (hm : m < 257) : sealT n (bodyOf (sealT m b)) ≠ sealT m b := by
  rw [body_seal]
  intro e
  have := (seal_inj e).2
  unfold sumT at this
  omega
theorem weigh_set : ∀ (l : List UInt8) (k i : Nat) (y : UInt8) (hi : i < l.length), weigh k (l.set i y) + (k + i) * (l[i]).toNat = weigh k l + (k + i) * y.toNat
  | [], _, _, _, h => by simp at h
  | b :: r, k, 0, y, _ => by simp [weigh]; omega
  | b :: r, k, i + 1, y, h => by
    have := weigh_set r (k + 1) i y (by simp at h; omega)
    simp only [List.set_cons_succ, weigh, List.getElem_cons_succ]
    rw [show k + (i + 1) = k + 1 + i by omega]
    omega
theorem prime_257 : ∀ (a b : Nat), 0 < a → a < 257 → 0 < b → b < 257 → a * b % 257 ≠ 0 := by
  have h : ∀ a : Fin 257, 0 < a.val → a.val * (a.val ^ 255 % 257) % 257 = 1 := by decide +kernel
  intro a b ha ha2 hb hb2 e
  have h1 := h ⟨a, ha2⟩ ha
  dsimp only at h1
  have h2 : b * (a * (a ^ 255 % 257)) % 257 = b := by rw [Nat.mul_mod, h1, Nat.mul_one, Nat.mod_mod, Nat.mod_eq_of_lt hb2]
  have h3 : b * (a * (a ^ 255 % 257)) % 257 = 0 := by
    rw [← Nat.mul_assoc, Nat.mul_comm b a, Nat.mul_mod, e, Nat.zero_mul]
  omega
theorem sum_set {n : Nat} {l : List UInt8} {i : Nat} {y : UInt8} (hi : i < l.length) (hl : l.length ≤ 200) (hy : l[i] ≠ y) : sumT n (l.set i y) ≠ sumT n l := by
  intro e
  have hw := weigh_set l 1 i y hi
  have hne : (l[i]).toNat ≠ y.toNat := fun e => hy (UInt8.toNat.inj e)
  have h1 := (l[i]).toNat_lt
  have h2 := y.toNat_lt
  unfold sumT at e
  rcases Nat.lt_or_ge (l[i]).toNat y.toNat with hlt | hge
  · have hp := prime_257 (1 + i) (y.toNat - (l[i]).toNat) (by omega) (by omega) (by omega) (by omega)
    have hm : (1 + i) * (y.toNat - (l[i]).toNat) = (1 + i) * y.toNat - (1 + i) * (l[i]).toNat := Nat.mul_sub _ _ _
    have hle : (1 + i) * (l[i]).toNat ≤ (1 + i) * y.toNat := Nat.mul_le_mul_left _ (by omega)
    omega
  · have hp := prime_257 (1 + i) ((l[i]).toNat - y.toNat) (by omega) (by omega) (by omega) (by omega)
    have hm : (1 + i) * ((l[i]).toNat - y.toNat) = (1 + i) * (l[i]).toNat - (1 + i) * y.toNat := Nat.mul_sub _ _ _
    have hle : (1 + i) * y.toNat ≤ (1 + i) * (l[i]).toNat := Nat.mul_le_mul_left _ (by omega)
    omega
/-- A line in which a byte is another one. -/
theorem seal_set {n m : Nat} {b : List UInt8} {y : UInt8} (hm : m < (sealT n b).length) (hl : b.length ≤ 196) (hy : (sealT n b)[m] ≠ y) : sealT n (bodyOf ((sealT n b).set m y)) ≠ (sealT n b).set m y := by
  intro e
  have hsl := seal_len n b
  have hb : bodyOf ((sealT n b).set m y) = b.set m y := by
    unfold bodyOf
    rw [List.length_set, hsl, Nat.add_sub_cancel, List.take_set]
    congr 1
    unfold sealT
    simp
  rw [hb] at e
  rcases Nat.lt_or_ge m b.length with h | h
  · have e2 : (sealT n b).set m y = b.set m y ++ 32 :: three (sumT n b) := by
      unfold sealT
      rw [List.set_append_left _ _ h]
    rw [e2] at e
    unfold sealT at e
    have e3 := List.append_cancel_left e
    have hb2 : (sealT n b)[m] = b[m] := by simp [sealT, List.getElem_append_left h]
    rw [hb2] at hy
    exact sum_set h (by omega) hy (three_inj (sumT_lt _ _) (sumT_lt _ _) (List.cons.inj e3).2)
  · rw [List.set_eq_of_length_le h] at e
    have e2 := congrArg (fun l => l[m]?) e
    simp only [List.getElem?_set_self hm] at e2
    rw [List.getElem?_eq_getElem hm] at e2
    exact hy (Option.some.inj e2)
theorem digits_bytes {z : Int} (h : 0 ≤ z) : ∀ b ∈ Lib.itoa z, 48 ≤ b.toNat ∧ b.toNat ≤ 57 := fun b hb => by
  rw [itoa_pos h] at hb
  exact digits_all _ b hb
theorem rowText_bytes : ∀ {x : List Int}, (∀ z ∈ x, 0 ≤ z) → ∀ b ∈ rowText x, b = 44 ∨ 48 ≤ b.toNat ∧ b.toNat ≤ 57
  | [], _, b, hb => by cases hb
  | [z], h, b, hb => by
    rw [rowText_one] at hb
    exact .inr (digits_bytes (h z (List.mem_cons_self ..)) b hb)
  | z :: y :: r, h, b, hb => by
    unfold rowText at hb
    rw [List.map_cons, List.map_cons, join_two] at hb
    rcases List.mem_append.1 hb with hb | hb
    · exact .inr (digits_bytes (h z (List.mem_cons_self ..)) b hb)
    · rcases List.mem_cons.1 hb with hb | hb
      · exact .inl hb
      · exact rowText_bytes (x := y :: r) (fun u hu => h u (List.mem_cons_of_mem _ hu)) b hb
theorem rowText_ne {x : List Int} (h0 : 0 < x.length) (h : ∀ z ∈ x, 0 ≤ z) : rowText x ≠ [] := by
  match x, h0 with
  | z :: r, _ =>
    unfold rowText
    rw [List.map_cons, Lib.join_cons]
    have hne : Lib.itoa z ≠ [] := by rw [itoa_pos (h z (List.mem_cons_self ..))]; exact digits_ne _
    intro e
    exact hne (List.append_eq_nil_iff.1 e).1
theorem rowText_no32 {x : List Int} (h : ∀ z ∈ x, 0 ≤ z) : (32 : UInt8) ∉ rowText x := fun hm => by
  rcases rowText_bytes h 32 hm with e | e
  · cases e
  · have : (32 : UInt8).toNat = 32 := rfl
    omega
theorem rowOf_no32 {s : List UInt8} (h : (32 : UInt8) ∈ s) : rowOf s = none := by
  cases hr : rowOf s with
  | none => rfl
  | some x =>
    have ht := text_rowOf hr
    have hz : ∀ z ∈ x, 0 ≤ z := by
      unfold rowOf at hr
      cases hm : (splitC s).mapM numOf with
      | none => rw [hm] at hr; cases hr
      | some ns =>
        rw [hm] at hr
        dsimp only at hr
        split at hr
        · cases hr
          intro z hz
          obtain ⟨n, _, rfl⟩ := List.mem_map.1 hz
          omega
        · cases hr
    rw [← ht] at h
    exact absurd h (rowText_no32 hz)
theorem word_no32 {kd : Int} : (32 : UInt8) ∉ wordOf kd := by
  unfold wordOf
  repeat' split
  all_goals decide
/-- Where a space may stand in a line's body. -/
theorem body_space {kd : Int} {rows : List (List Int)} (h : Written kd rows) {b : List UInt8} (hb : b ∈ linesOf kd rows) {k : Nat} (hk : b[k]? = some 32) : b.length < k + 4 := by
  unfold linesOf at hb
  rcases List.mem_cons.1 hb with rfl | hb
  · exact absurd (List.mem_of_getElem? hk) word_no32
  rcases List.mem_append.1 hb with hb | hb
  · obtain ⟨x, hx, rfl⟩ := List.mem_map.1 hb
    exact absurd (List.mem_of_getElem? hk) (rowText_no32 fun z hz => ((h.nums x hx).2.2 z hz).1)
  · obtain rfl := List.mem_singleton.1 hb
    have hl : (Lib.itoa (rows.length : Int)).length ≤ 2 := by
      rw [itoa_nat]
      exact digits_few 2 _ (by omega) (by have := h.few; omega)
    have h3 : 3 ≤ k := by
      match k, hk with
      | 0, hk => simp [endW] at hk
      | 1, hk => simp [endW] at hk
      | 2, hk => simp [endW] at hk
      | k + 3, _ => omega
    rw [List.length_append]
    have : endW.length = 4 := rfl
    omega
theorem row_len : ∀ {x : List Int}, (∀ z ∈ x, 0 ≤ z ∧ z ≤ 86400000) → (rowText x).length ≤ 9 * x.length
  | [], _ => by simp [rowText, Lib.join]
  | [z], h => by
    rw [rowText_one]
    have := itoa_few (h z (List.mem_cons_self ..)).1 (h z (List.mem_cons_self ..)).2
    simp
    omega
  | z :: y :: r, h => by
    have h1 := itoa_few (h z (List.mem_cons_self ..)).1 (h z (List.mem_cons_self ..)).2
    have h2 := row_len (x := y :: r) fun u hu => h u (List.mem_cons_of_mem _ hu)
    unfold rowText at h2 ⊢
    rw [List.map_cons] at h2
    rw [List.map_cons, List.map_cons, join_two, List.length_append, List.length_cons, List.length_cons]
    rw [List.length_cons] at h2 ⊢
    omega
/-- How long a line's body is. -/
theorem body_len {kd : Int} {rows : List (List Int)} (h : Written kd rows) {b : List UInt8} (hb : b ∈ linesOf kd rows) : 1 ≤ b.length ∧ b.length ≤ 45 := by
  unfold linesOf at hb
  rcases List.mem_cons.1 hb with rfl | hb
  · have h1 := inb_le' h.kind
    have : kd = 1 ∨ kd = 2 ∨ kd = 3 ∨ kd = 4 := by omega
    rcases this with rfl | rfl | rfl | rfl <;> decide
  rcases List.mem_append.1 hb with hb | hb
  · obtain ⟨x, hx, rfl⟩ := List.mem_map.1 hb
    obtain ⟨p1, p5, pz⟩ := h.nums x hx
    have h1 := row_len pz
    have h2 := List.length_pos_iff.2 (rowText_ne p1 fun z hz => (pz z hz).1)
    omega
  · obtain rfl := List.mem_singleton.1 hb
    have hl : (Lib.itoa (rows.length : Int)).length ≤ 2 := by
      rw [itoa_nat]
      exact digits_few 2 _ (by omega) (by have := h.few; omega)
    rw [List.length_append]
    have : endW.length = 4 := rfl
    omega
/-- A part of a line, from its begin on, has no check number. -/
theorem form_part {kd : Int} {rows : List (List Int)} (h : Written kd rows) {b : List UInt8} (hb : b ∈ linesOf kd rows) {n m : Nat} (hm : m < (sealT n b).length) : formB ((sealT n b).take m) = false := by
  cases hf : formB ((sealT n b).take m) with
  | false => rfl
  | true =>
    exfalso
    have hl : ((sealT n b).take m).length = m := by rw [List.length_take]; omega
    obtain ⟨h4, h32⟩ := form_facts hf
    have hall : (((sealT n b).take m).drop (((sealT n b).take m).length - 3)).all digitB = true := by
      unfold formB at hf
      simp only [Bool.and_eq_true] at hf
      exact hf.2.2
    rw [hl] at h4 h32 hall
    rw [seal_len] at hm
    rw [List.getElem?_take_of_lt (by omega)] at h32
    have hin : (sealT n b)[m - 4]? = b[m - 4]? := by unfold sealT; rw [List.getElem?_append_left (by omega)]
    rw [hin] at h32
    have h5 := body_space h hb h32
    have h6 : (sealT n b)[b.length]? = some 32 := by unfold sealT; simp
    have h7 : (((sealT n b).take m).drop (m - 3))[b.length - (m - 3)]? = some 32 := by
      rw [List.getElem?_drop, List.getElem?_take_of_lt (by omega), show m - 3 + (b.length - (m - 3)) = b.length by omega]
      exact h6
    have h8 := List.all_eq_true.1 hall _ (List.mem_of_getElem? h7)
    revert h8
    decide
/-- A line with the next one behind it. -/
theorem mid_joined {kd : Int} {rows : List (List Int)} (h : Written kd rows) {j : Nat} (hj : j < rows.length + 1) {b r : List UInt8} (hb : (linesOf kd rows)[j]? = some b) (h32 : (32 : UInt8) ∈ r) : midL (j + 1) (stAt kd rows j) (b ++ r) = none := by
  rcases lines_at (kd := kd) (show j < rows.length + 2 by omega) with (⟨rfl, h1⟩ | ⟨x, h0, hx, h1⟩) | ⟨h0, _⟩
  · unfold midL
    have hk : kindOf (b ++ r) = 0 := by
      rcases Classical.em (kindOf (b ++ r) = 0) with e | e
      · exact e
      · have hw := kind_word e
        have : (32 : UInt8) ∈ b ++ r := List.mem_append.2 (.inr h32)
        rw [hw] at this
        exact absurd this word_no32
    rw [if_pos rfl, if_pos hk]
  · rw [h1] at hb
    cases hb
    obtain ⟨p1, p5, pz⟩ := h.nums x (List.mem_of_getElem? hx)
    have hp : endW.isPrefixOf (rowText x ++ r) = false := by
      have hbs := rowText_bytes fun z hz => (pz z hz).1
      cases hs : rowText x with
      | nil => exact absurd hs (rowText_ne p1 fun z hz => (pz z hz).1)
      | cons c t =>
        have hc : c ≠ 101 := fun e => by
          have := hbs c (by rw [hs]; exact List.mem_cons_self ..)
          rw [e] at this
          revert this
          decide
        unfold endW
        simp only [List.cons_append, List.isPrefixOf, Bool.and_eq_false_iff]
        left
        exact beq_eq_false_iff_ne.2 (fun e => hc e.symm)
    unfold midL
    rw [if_neg (by omega), hp, rowOf_no32 (List.mem_append.2 (.inr h32))]
    rfl
  · omega

/-- Where a byte of a text of lines stands. -/
theorem place : ∀ (ls : List (List UInt8)) (i : Nat), i < (ls.flatMap (· ++ [10])).length → ∃ j l m, ls[j]? = some l ∧ m ≤ l.length ∧ i = ((ls.take j).flatMap (· ++ [10])).length + m
  | [], i, h => by simp at h
  | l :: r, i, h => by
    rw [List.flatMap_cons, List.length_append, List.length_append, List.length_singleton] at h
    rcases Nat.lt_or_ge l.length i with hi | hi
    · obtain ⟨j, l', m, h1, h2, h3⟩ := place r (i - (l.length + 1)) (by omega)
      refine ⟨j + 1, l', m, h1, h2, ?_⟩
      rw [List.take_succ_cons, List.flatMap_cons, List.length_append, List.length_append, List.length_singleton]
      omega
    · exact ⟨0, l, i, rfl, hi, by simp⟩
theorem split_at {ls : List (List UInt8)} {j : Nat} {l : List UInt8} (h : ls[j]? = some l) : ls = ls.take j ++ l :: ls.drop (j + 1) := by
  obtain ⟨hj, e⟩ := List.getElem?_eq_some_iff.1 h
  conv => lhs; rw [← List.take_append_drop j ls]
  rw [List.drop_eq_getElem_cons hj, e]
/-- The parts of the text ahead of a place, and behind it. -/
theorem place_parts {ls : List (List UInt8)} {j m : Nat} {l : List UInt8} (h : ls[j]? = some l) (hm : m ≤ l.length) :
    (ls.flatMap (· ++ [10])).take (((ls.take j).flatMap (· ++ [10])).length + m) = (ls.take j).flatMap (· ++ [10]) ++ l.take m
    ∧ (ls.flatMap (· ++ [10]))[((ls.take j).flatMap (· ++ [10])).length + m]? = (l ++ [10])[m]?
    ∧ (ls.flatMap (· ++ [10])).drop (((ls.take j).flatMap (· ++ [10])).length + m + 1) = (l ++ [10]).drop (m + 1) ++ (ls.drop (j + 1)).flatMap (· ++ [10]) := by
  have e : ls.flatMap (· ++ [10]) = (ls.take j).flatMap (· ++ [10]) ++ ((l ++ [10]) ++ (ls.drop (j + 1)).flatMap (· ++ [10])) := by
    conv => lhs; rw [split_at h]
    rw [List.flatMap_append, List.flatMap_cons]
  rw [e]
  refine ⟨?_, ?_, ?_⟩
  · rw [List.take_append, List.take_of_length_le (by omega), Nat.add_sub_cancel_left, List.append_assoc, List.take_append_of_le_length hm]
  · rw [List.getElem?_append_right (by omega), Nat.add_sub_cancel_left, List.getElem?_append_left (by simp; omega)]
  · rw [List.drop_append, List.drop_of_length_le (by omega), List.nil_append, Nat.add_assoc, Nat.add_sub_cancel_left, List.drop_append_of_le_length (by simp; omega)]
theorem count_place {ls : List (List UInt8)} (hn : ∀ l ∈ ls, (10 : UInt8) ∉ l) {j m : Nat} {l : List UInt8} (h : ls[j]? = some l) : ((ls.take j).flatMap (· ++ [10]) ++ l.take m).count 10 = j := by
  have hj := (List.getElem?_eq_some_iff.1 h).1
  rw [List.count_append, count_lines _ fun y hy => hn y (List.mem_of_mem_take hy), List.length_take, List.count_eq_zero.2 (fun hm => hn l (List.mem_of_getElem? h) (List.mem_of_mem_take hm))]
  omega

theorem flat_len2 : ∀ (a b : List (List UInt8)), a.map List.length = b.map List.length → (a.flatMap (· ++ [10])).length = (b.flatMap (· ++ [10])).length
  | [], [], _ => rfl
  | [], _ :: _, h => by simp at h
  | _ :: _, [], h => by simp at h
  | x :: a, y :: b, h => by
    simp only [List.map_cons, List.cons.injEq] at h
    rw [List.flatMap_cons, List.flatMap_cons, List.length_append, List.length_append, flat_len2 a b h.2, List.length_append, List.length_append, h.1]

/-! ### a text that is cut off -/
theorem read_cut {kd : Int} {rows : List (List Int)} (h : sheetB kd rows = true) {i : Nat} (hl : (textFrom 1 (linesOf kd rows)).length ≤ 1500) (hi : i < (textFrom 1 (linesOf kd rows)).length) :
    readR ((textFrom 1 (linesOf kd rows)).take i) = ((0, []), ((((textFrom 1 (linesOf kd rows)).take i).count 10 + 1 : Nat) : Int), 111) := by
  have hw : Written kd rows := ⟨h⟩
  rw [sealsOf_text] at hl hi ⊢
  obtain ⟨j, l, m, h1, h2, rfl⟩ := place _ _ hi
  have hj : j < rows.length + 2 := by rw [← sealsOf_len kd rows]; exact (List.getElem?_eq_some_iff.1 h1).1
  rw [(place_parts h1 h2).1, count_place hw.no10 h1]
  refine read_short hw hj (fun hm => hw.no10 l (List.mem_of_getElem? h1) (List.mem_of_mem_take hm)) ?_ rfl
  rw [← (place_parts h1 h2).1]
  have := List.length_take_le (((sealsOf kd rows).take j).flatMap (· ++ [10])).length.succ ((sealsOf kd rows).flatMap (· ++ [10]))
  rw [List.length_take]
  omega

/-! ### a byte that is changed -/
theorem read_changed {kd : Int} {rows : List (List Int)} (h : sheetB kd rows = true) {i : Nat} {y : UInt8} (hl : (textFrom 1 (linesOf kd rows)).length ≤ 1500) (hi : i < (textFrom 1 (linesOf kd rows)).length) (hy : (textFrom 1 (linesOf kd rows))[i]? ≠ some y) :
    ∃ e, (e = 111 ∨ e = 112) ∧ readR ((textFrom 1 (linesOf kd rows)).take i ++ [y] ++ (textFrom 1 (linesOf kd rows)).drop (i + 1)) = ((0, []), ((((textFrom 1 (linesOf kd rows)).take i).count 10 + 1 : Nat) : Int), e) := by
  have hw : Written kd rows := ⟨h⟩
  have hlen : ((textFrom 1 (linesOf kd rows)).take i ++ [y] ++ (textFrom 1 (linesOf kd rows)).drop (i + 1)).length ≤ 1500 := by
    rw [List.length_append, List.length_append, List.length_take, List.length_drop, List.length_singleton]
    omega
  rw [sealsOf_text] at hl hi hy hlen ⊢
  obtain ⟨j, l, m, h1, h2, rfl⟩ := place _ _ hi
  have hj : j < rows.length + 2 := by rw [← sealsOf_len kd rows]; exact (List.getElem?_eq_some_iff.1 h1).1
  obtain ⟨p1, p2, p3⟩ := place_parts h1 h2
  rw [p1, p3] at hlen
  rw [p2] at hy
  rw [p1, p3, count_place hw.no10 h1]
  have hno := hw.no10
  have hnl := hno l (List.mem_of_getElem? h1)
  have hnr : ∀ z ∈ (sealsOf kd rows).drop (j + 1), (10 : UInt8) ∉ z := fun z hz => hno z (List.mem_of_mem_drop hz)
  obtain ⟨b, hb, hs⟩ := sealsOf_get (kd := kd) hj
  have hfew := hw.few
  rw [h1] at hs
  obtain rfl := Option.some.inj hs
  have hbm := List.mem_of_getElem? hb
  have hsl := seal_len (j + 1) b
  rcases Nat.lt_or_ge m (sealT (j + 1) b).length with hm | hm
  · rw [List.getElem?_append_left hm, List.getElem?_eq_getElem hm] at hy
    have hy2 : (sealT (j + 1) b)[m] ≠ y := fun e => hy (by rw [e])
    rw [List.drop_append_of_le_length (by omega)]
    rcases Classical.em (y = 10) with rfl | h10
    · refine ⟨111, .inl rfl, read_wrong hw (by omega) (l := (sealT (j + 1) b).take m) (r := (sealT (j + 1) b).drop (m + 1) :: (sealsOf kd rows).drop (j + 1)) (tl := []) ?_ (by simp) ?_ ?_ (take_form (form_part hw hbm hm))⟩
      · intro z hz
        rcases List.mem_cons.1 hz with rfl | hz
        · exact fun hm => hnl (List.mem_of_mem_take hm)
        rcases List.mem_cons.1 hz with rfl | hz
        · exact fun hm => hnl (List.mem_of_mem_drop hm)
        · exact hnr z hz
      · rw [List.drop_append_of_le_length (by omega)] at hlen
        exact hlen
      · simp
    · have hset : (sealT (j + 1) b).take m ++ [y] ++ (sealT (j + 1) b).drop (m + 1) = (sealT (j + 1) b).set m y := by
        rw [List.set_eq_take_append_cons_drop, if_pos hm]
        simp
      have hbl : b.length ≤ 196 := by have := (body_len hw hbm).2; omega
      obtain ⟨e, he, he2⟩ := take_wrong (st := stAt kd rows j) (seal_set hm hbl hy2)
      refine ⟨e, he2, read_wrong hw (by omega) (l := (sealT (j + 1) b).set m y) (r := (sealsOf kd rows).drop (j + 1)) (tl := []) ?_ (by simp) ?_ ?_ he⟩
      · intro z hz
        rcases List.mem_cons.1 hz with rfl | hz
        · intro hm
          rcases List.mem_or_eq_of_mem_set hm with hm | hm
          · exact hnl hm
          · exact h10 hm.symm
        · exact hnr z hz
      · rw [List.drop_append_of_le_length (by omega)] at hlen
        exact hlen
      · rw [← hset]; simp
  · obtain rfl : m = (sealT (j + 1) b).length := by omega
    have h10 : y ≠ 10 := fun e => hy (by rw [e]; simp)
    have hta : (sealT (j + 1) b).take (sealT (j + 1) b).length = sealT (j + 1) b := List.take_of_length_le (Nat.le_refl _)
    have hdr : (sealT (j + 1) b ++ [10]).drop ((sealT (j + 1) b).length + 1) = [] := List.drop_of_length_le (by simp)
    rw [hta, hdr, List.nil_append] at hlen ⊢
    cases hr : (sealsOf kd rows).drop (j + 1) with
    | nil =>
      refine ⟨111, .inl rfl, read_short hw hj (tl := sealT (j + 1) b ++ [y]) ?_ ?_ ?_⟩
      · intro hm
        rcases List.mem_append.1 hm with hm | hm
        · exact hnl hm
        · exact h10 (List.mem_singleton.1 hm).symm
      · rw [hr] at hlen; exact hlen
      · simp
    | cons l2 r =>
      have hj1 : j + 1 < rows.length + 2 := by
        have := congrArg List.length hr
        rw [List.length_drop, sealsOf_len, List.length_cons] at this
        omega
      obtain ⟨b2, hb2, hs2⟩ := sealsOf_get (kd := kd) hj1
      have hl2 : (sealsOf kd rows)[j + 1]? = some l2 := by
        have := congrArg (fun l => l[0]?) hr
        simp only [List.getElem?_drop, Nat.add_zero] at this
        exact this
      rw [hl2] at hs2
      obtain rfl := Option.some.inj hs2
      have hn2 : ∀ z ∈ sealT (j + 1 + 1) b2 :: r, (10 : UInt8) ∉ z := by rw [← hr]; exact hnr
      refine ⟨111, .inl rfl, read_wrong hw (by omega) (l := sealT (j + 1) b ++ y :: sealT (j + 1 + 1) b2) (r := r) (tl := []) ?_ (by simp) ?_ ?_ ?_⟩
      · intro z hz
        rcases List.mem_cons.1 hz with rfl | hz
        · intro hm
          rcases List.mem_append.1 hm with hm | hm
          · exact hnl hm
          rcases List.mem_cons.1 hm with hm | hm
          · exact h10 hm.symm
          · exact hn2 _ (List.mem_cons_self ..) hm
        · exact hn2 z (List.mem_cons_of_mem _ hz)
      · rw [hr] at hlen; exact hlen
      · simp
      · have hbody : bodyOf (sealT (j + 1) b ++ y :: sealT (j + 1 + 1) b2) = b ++ (32 :: three (sumT (j + 1) b) ++ y :: b2) := by
          have h3 := body_seal (j + 1 + 1) b2
          have h4 := seal_len (j + 1 + 1) b2
          unfold bodyOf at h3 ⊢
          rw [List.length_append, List.length_cons, h4]
          rw [h4] at h3
          rw [show (sealT (j + 1) b).length + (b2.length + 4 + 1) - 4 = (sealT (j + 1) b).length + (b2.length + 1) by omega, List.take_append, List.take_of_length_le (by omega), Nat.add_sub_cancel_left, List.take_succ_cons]
          rw [Nat.add_sub_cancel] at h3
          rw [h3]
          unfold sealT
          simp
        unfold takeL
        rw [hbody, mid_joined hw (by omega) hb (by simp)]
        simp

/-! ### lines in another order -/
/-- Lines by their numbers. -/
def pick (ls : List (List UInt8)) (l : List Nat) : List (List UInt8) := l.map fun k => ls.getD k []
theorem read_pick {kd : Int} {rows : List (List Int)} (h : sheetB kd rows = true) {l : List Nat} (hl : ((pick (sealsOf kd rows) l).flatMap (· ++ [10])).length ≤ 1500) {j : Nat} (hpre : ∀ x, x < j → l[x]? = some x) (hin : ∀ x ∈ l, x < rows.length + 2) (hj : j ≤ rows.length + 2) (hx : l[j]? = none ∧ j < rows.length + 2 ∨ ∃ y, l[j]? = some y ∧ y ≠ j) :
    ∃ e, (e = 111 ∨ e = 112) ∧ readR ((pick (sealsOf kd rows) l).flatMap (· ++ [10])) = ((0, []), ((j + 1 : Nat) : Int), e) := by
  have hw : Written kd rows := ⟨h⟩
  have hfew := hw.few
  have hlen := sealsOf_len kd rows
  have htake : (pick (sealsOf kd rows) l).take j = (sealsOf kd rows).take j := by
    apply List.ext_getElem?
    intro k
    rw [List.getElem?_take, List.getElem?_take]
    split
    · rename_i hk
      unfold pick
      rw [List.getElem?_map, hpre k hk, Option.map_some, List.getD_eq_getElem?_getD, List.getElem?_eq_getElem (by omega)]
      rfl
    · rfl
  rcases hx with ⟨hx, hj2⟩ | ⟨y, hx, hy⟩
  · refine ⟨111, .inl rfl, read_short hw hj2 (tl := []) (by simp) hl ?_⟩
    rw [← htake, List.take_of_length_le (by unfold pick; rw [List.length_map]; exact List.getElem?_eq_none_iff.1 hx), List.append_nil]
  · have hyn := hin y (List.mem_of_getElem? hx)
    obtain ⟨b, hb, hs⟩ := sealsOf_get (kd := kd) hyn
    have hp : (pick (sealsOf kd rows) l)[j]? = some (sealT (y + 1) b) := by
      unfold pick
      rw [List.getElem?_map, hx, Option.map_some, List.getD_eq_getElem?_getD, hs]
      rfl
    obtain ⟨e, he, he2⟩ := take_wrong (st := stAt kd rows j) (seal_moved (n := j + 1) (m := y + 1) b (by omega) (by omega) (by omega))
    refine ⟨e, he2, read_wrong hw hj (l := sealT (y + 1) b) (r := (pick (sealsOf kd rows) l).drop (j + 1)) (tl := []) ?_ (by simp) hl ?_ he⟩
    · have hall : ∀ z ∈ pick (sealsOf kd rows) l, (10 : UInt8) ∉ z := by
        intro z hz
        obtain ⟨k, hk, rfl⟩ := List.mem_map.1 hz
        rw [List.getD_eq_getElem?_getD, List.getElem?_eq_getElem (by have := hin k hk; omega)]
        exact hw.no10 _ (List.getElem_mem _)
      intro z hz
      rcases List.mem_cons.1 hz with rfl | hz
      · exact hall _ (List.mem_of_getElem? hp)
      · exact hall z (List.mem_of_mem_drop hz)
    · rw [List.append_nil, ← htake, ← split_at hp]
end Kr

/-
  Walks of the laws' package of sheets: at; what the laws' first calls answer.
-/
namespace Go.Proofs.YtkgchngaganokaaGreatDoor
open Go.RowKit Kr
set_option linter.unusedSimpArgs false
set_option linter.unusedVariables false

/-- How many of a list are ahead of a number. -/
def aheadN (l : List Int) (i : Int) : Nat := l.countP fun z => decide (z < i)
theorem ahead_snoc (l : List Int) (z i : Int) : aheadN (l ++ [z]) i = aheadN l i + if z < i then 1 else 0 := by
  unfold aheadN
  rw [List.countP_append, List.countP_singleton]
  simp
theorem ahead_le (l : List Int) (i : Int) : aheadN l i ≤ l.length := List.countP_le_length
set_option maxHeartbeats 2000000 in
theorem l11_at_row (s : ByteArray) (i : Int) (w : World) (hs : s.size ≤ 5000) :
    Calls Tryz.prog 13 #[.string s, .int .i64 i] w fun e w' => e = .returned (.int .i64 (((aheadN (endsN 0 s.data.toList) i : Nat) : Int) + 1)) ∧ w.Exts w' := by
  have hen := fun (W : World) => l11_ends_row s W hs
  have hln : (endsN 0 s.data.toList).length ≤ 5000 := by
    rw [endsN_len]
    have := List.count_le_length (a := (10 : UInt8)) (l := s.data.toList)
    rw [tx_len] at this
    omega
  generalize endsN 0 s.data.toList = l at hen hln
  have HEN := Lib.hid hen
  clear hen
  clear hs
  go_enter Tryz.func13, Tryz.ntmps13
  go_wp2_with (go_at_call 14; refine (HEN.out _).mono ?_; rintro e w' ⟨⟨v, rfl, hrow, _⟩, X1, rfl⟩; obtain ⟨q, b, o, cap, rfl, hm, hq, hc⟩ := hrow.ex; have HC := Lib.hid hc; have HQ := Lib.hid hq; clear hc hq hrow)
  go_loopw [5, 11] (fun n k wr => ∃ t : Nat, t ≤ l.length ∧ k = .int .i64 t ∧ n = .int .i64 (((aheadN (l.take t) i : Nat) : Int) + 1) ∧ aheadN (l.take t) i ≤ t ∧ (World.ext w X1).Exts wr) (fun _ k _ => l.length - (intOf k).toNat)
  case atStart => exact ⟨0, Nat.zero_le _, rfl, rfl, Nat.le_refl _, World.Exts.refl _⟩
  case round =>
    obtain ⟨t, ht, rfl, rfl, hle, X3, rfl⟩ := hrel
    rcases Nat.lt_or_ge t l.length with hlt | hge
    · obtain ⟨rfl, hl⟩ := HQ.out (by omega)
      obtain ⟨z, hz⟩ := some_of_lt hlt
      have c0 := HC.out t z hz 0 _ rfl
      simp only [Nat.mul_one, Nat.add_zero] at c0
      have hst := ahead_snoc (l.take t) z i
      rw [← take_snoc hz] at hst
      have w1 : (t : Int) < (l.length : Int) := by omega
      generalize aheadN (l.take t) i = n at hst hle
      clear hz HC HQ
      rcases Int.lt_or_le z i with hzi | hzi
      · rw [if_pos hzi] at hst
        have HST := Lib.hid hst
        clear hst
        go_wp2_with fail
        go_roundw
        case rel => exact ⟨t + 1, by omega, by go_num, by rw [HST.out]; first | rfl | go_num | (congr 1), by rw [HST.out]; omega, exq⟩
        case measure => simp [intOf]; omega
      · rw [if_neg (by omega)] at hst
        have HST := Lib.hid hst
        clear hst
        go_wp2_with fail
        go_roundw
        case rel => exact ⟨t + 1, by omega, by go_num, by rw [HST.out]; first | rfl | go_num, by rw [HST.out]; omega, exq⟩
        case measure => simp [intOf]; omega
    · have w1 : ¬ (t : Int) < (l.length : Int) := by omega
      have hfin : aheadN (l.take t) i = aheadN l i := by rw [List.take_of_length_le hge]
      generalize aheadN (l.take t) i = n at hfin hle
      have HFIN := Lib.hid hfin
      clear hfin
      go_wp2_with fail
      go_ret
      exact ⟨by rw [← HFIN.out]; rfl, exq⟩
/-- The line in which a place of a text is. -/
theorem l11_at_any (s : ByteArray) (i : Nat) (w : World) (hs : s.size ≤ 5000) :
    Calls Tryz.prog 13 #[.string s, .int .i64 i] w fun e w' => e = .returned (.int .i64 ((((s.data.toList.take i).count 10 + 1 : Nat)) : Int)) ∧ w.Exts w' := by
  have h := l11_at_row s i w hs
  have e := endsN_before s.data.toList 0 i
  rw [Nat.zero_add] at e
  unfold aheadN at h
  rw [e] at h
  exact h

theorem wfU32 {a : Int} (h : (Lit.int .u32 a).wf = true) : 0 ≤ a ∧ a ≤ 4294967295 := by
  simp only [Lit.wf, Bool.and_eq_true, decide_eq_true_eq] at h
  exact ⟨h.1, h.2⟩
theorem wfU8 {a : Int} (h : (Lit.int .u8 a).wf = true) : 0 ≤ a ∧ a ≤ 255 := by
  simp only [Lit.wf, Bool.and_eq_true, decide_eq_true_eq] at h
  exact ⟨h.1, h.2⟩

/-- What the first calls of the laws of sheets answer. -/
structure Front (w : World) (kd : Int) (rows : List (List Int)) (v : Value) (rb : Bool) (B : ByteArray) : Prop where
  alive : ∀ W : World, w.Exts W → Calls Tryz.prog 9 #[] W fun e w' => e = .returned (.bool true) ∧ W.Exts w'
  ready : ∀ W : World, w.Exts W → Calls Tryz.prog 10 #[.agg #[.int .u8 kd, v]] W fun e w' => e = .returned (.bool rb) ∧ W.Exts w'
  text : B.data.toList = textFrom 1 (linesOf kd rows)
  ok : rb = true → sheetB kd rows = true ∧ rows.length ≤ 96
  long : rb = true → 1500 < B.size → ∀ W : World, w.Exts W → Calls Tryz.prog 11 #[.agg #[.int .u8 kd, v]] W fun e w' => e = .returned (.tuple #[.string ⟨#[]⟩, .int .i64 9]) ∧ W.Exts w'
  short : rb = true → B.size ≤ 1500 → ∀ W : World, w.Exts W → Calls Tryz.prog 11 #[.agg #[.int .u8 kd, v]] W fun e w' => e = .returned (.tuple #[.string B, .int .i64 0]) ∧ W.Exts w'
theorem front_of (kd : Int) (ps : List (List Int × Value)) (v : Value) (w : World) (hk : 0 ≤ kd ∧ kd ≤ 255) (h : ListsAt w v ps) (hw : LibAt w) (hc : ColsAt w) :
    ∃ rb B, Front w kd (ps.map Prod.fst) v rb B := by
  obtain ⟨rb, hrb⟩ : ∃ b, (!greatS (ps.map Prod.fst) && sheetB kd (ps.map Prod.fst)) = b := ⟨_, rfl⟩
  have hrd2 : rb = true → ps.length ≤ 150 ∧ sheetB kd (ps.map Prod.fst) = true := fun e => by
    rw [e, Bool.and_eq_true, Bool.not_eq_true'] at hrb
    have h1 := (greatS_false hrb.1).1
    rw [List.length_map] at h1
    exact ⟨h1, hrb.2⟩
  have hwr : rb = true → writeR kd (ps.map Prod.fst) = if 1500 < (bytesT (textFrom 1 (linesOf kd (ps.map Prod.fst)))).size then ([], 9) else ((textFrom 1 (linesOf kd (ps.map Prod.fst))), 0) := fun e => by
    unfold writeR
    rw [(hrd2 e).2, ← tx_len]
    rfl
  refine ⟨rb, bytesT (textFrom 1 (linesOf kd (ps.map Prod.fst))), fun W hE => l11_alive_any W (hw.mono hE), fun W hE => ?_, rfl, fun e => ⟨(hrd2 e).2, rows_few (hrd2 e).2⟩, fun e hl W hE => ?_, fun e hl W hE => ?_⟩
  · have h1 := l11_ready_any kd ps _ W (h.mono hE) (hc.mono hE) hk
    rw [hrb] at h1
    exact h1
  · have h1 := sheet_Write_any ice_fn kd ps _ W (h.mono hE) (by have := (hrd2 e).1; omega) hk (hw.mono hE)
    rw [hwr e, if_pos hl] at h1
    exact h1.mono fun e w' h2 => h2.det
  · have h1 := sheet_Write_any ice_fn kd ps _ W (h.mono hE) (by have := (hrd2 e).1; omega) hk (hw.mono hE)
    rw [hwr e, if_neg (by omega)] at h1
    exact h1.mono fun e w' h2 => h2.det
/-- A text that is read with an error. -/
theorem read_error (s : ByteArray) (n x : Int) (w : World) (hw : LibAt w) (h : readR s.data.toList = ((0, []), n, x)) :
    Calls Tryz.prog 12 #[.string s] w fun e w' => ∃ q c, e = .returned (.tuple #[.agg #[.int .u8 0, .slice q 0 c], .int .i64 n, .int .i64 x]) ∧ w.Exts w' := by
  refine (sheet_Read_any ice_fn s w hw).mono fun e w' h2 => ?_
  rw [h] at h2
  obtain ⟨q, c, ps, rfl, _, hm, hE⟩ := h2.det
  obtain rfl : ps = [] := List.map_eq_nil_iff.1 hm
  exact ⟨q, c, rfl, hE⟩
theorem text_pos (kd : Int) (rows : List (List Int)) : 0 < (textFrom 1 (linesOf kd rows)).length := by
  unfold linesOf
  rw [textFrom, List.length_append, seal_len]
  omega
end Go.Proofs.YtkgchngaganokaaGreatDoor
