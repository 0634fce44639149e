/-
  The library's strings and strconv, as they are used here: the shelf's contracts in this work's words; the variables of the library that they read.
-/
import Derived.Test.YtcickafaomfbmaaGreatDoorZSBksShelfS
import Derived.Test.YtcickafaomfbmaaGreatDoorZSBksVeX
import Derived.Test.YtcickafaomfbmaaGreatDoorZSBksTq
import Derived.Laws.RangeAny
import Derived.Shelf.Strings.FuncGrows
namespace Go.Proofs.YtcickafaomfbmaaGreatDoor
open Go.RowKit Kr Go.Proofs
set_option linter.unusedSimpArgs false
set_option linter.unusedVariables false

/-- What the library's variables hold. -/
structure LibAt (w : World) : Prop where
  tab : Lib.TabIs Tryz.prog w "internal/strconv.uint64pow10" .u64 Lib.pow10Tab
  most : ∃ m, w.cell? ⟨2, 0, none⟩ = some (.int .i64 m)
  syn : ∃ tp p, w.var? Tryz.prog "strconv.ErrSyntax" = some #[.iface tp p]
  rng : ∃ tp p, w.var? Tryz.prog "strconv.ErrRange" = some #[.iface tp p]
theorem var_exts {w w' : World} {n : String} {cs : Array Value} (h : w.var? Tryz.prog n = some cs) (hE : w.Exts w') : w'.var? Tryz.prog n = some cs := by
  unfold World.var? at h ⊢
  cases hg : (Tryz.prog).globalNamed n with
  | none => rw [hg] at h; cases h
  | some g =>
    rw [hg] at h
    simp only [Option.bind_some] at h ⊢
    cases ho : w.heap[g]? with
    | none => rw [ho] at h; cases h
    | some o =>
      rw [ho] at h
      have hlt : g < w.heap.size := (Array.getElem?_eq_some_iff.1 ho).1
      rw [hE.below.block g hlt, ho]
      exact h
theorem LibAt.mono {w w' : World} (h : LibAt w) (hE : w.Exts w') : LibAt w' :=
  ⟨var_exts h.tab hE, by obtain ⟨m, hm⟩ := h.most; exact ⟨m, hE.cell hm⟩, by obtain ⟨t, p, hp⟩ := h.syn; exact ⟨t, p, var_exts hp hE⟩, by obtain ⟨t, p, hp⟩ := h.rng; exact ⟨t, p, var_exts hp hE⟩⟩

theorem grow_exts (w : World) (k : Nat) (os : Array Obj) : w.Exts (Sort.grow (w.drewN k) os) := by
  refine .of ⟨rfl, rfl, rfl, ?_, fun i hi => ?_⟩
  · show w.heap.size ≤ (w.heap ++ os).size
    rw [Array.size_append]
    omega
  · show (w.heap ++ os)[i]? = w.heap[i]?
    rw [Array.getElem?_append_left hi]
theorem Itoa_any (n : Int) (h0 : -9223372036854775808 ≤ n) (h1 : n ≤ 9223372036854775807) (w : World) (hw : LibAt w) :
    Calls Tryz.prog 31 #[.int .i64 n] w fun e w' => ∃ r, e = .returned (.string r) ∧ r.data.toList = Lib.itoa n ∧ w.Exts w' :=
  (Any.strconv_Itoa Tryz.laysM171 n h0 h1 w hw.tab).mono fun e w' ⟨he, k, os, hw'⟩ => ⟨_, he, rfl, hw' ▸ grow_exts w k os⟩
theorem Join_any (p : Option Addr) (xs : List ByteArray) (c : Nat) (sep : ByteArray) (w : World) (hrow : IsRow (fun x : ByteArray => [.string x]) 1 w (.slice p xs.length c) xs) (hlen : (Lib.join (xs.map (·.data.toList)) sep.data.toList).length ≤ 140737488355328) (hn : xs.length ≤ 1000000) :
    Calls Tryz.prog 68 #[.slice p xs.length c, .string sep] w fun e w' => ∃ r, e = .returned (.string r) ∧ r.data.toList = Lib.join (xs.map (·.data.toList)) sep.data.toList ∧ w.Exts w' := by
  obtain ⟨q, b, o, cap, e, hm, hq, hc⟩ := hrow.ex
  cases e
  rcases Nat.eq_zero_or_pos xs.length with h0 | h0
  · obtain rfl : xs = [] := List.eq_nil_of_length_eq_zero h0
    exact (Any.strings_Join_none Tryz.lays156 Tryz.Builder_Extra_156 p c sep w).mono fun e w' ⟨he, hw'⟩ => ⟨_, he, rfl, hw' ▸ World.Exts.refl w⟩
  · obtain ⟨rfl, hb⟩ := hq h0
    refine (Any.strings_Join Tryz.lays156 Tryz.Builder_Extra_156 b o c xs sep w (fun j x hx => ?_) ?_ (by omega) hm.1 hlen).mono fun e w' ⟨he, hw'⟩ => ⟨_, he, rfl, .of hw'⟩
    · have := hc j x hx 0 _ rfl
      simpa using this
    · have h := hc 0 xs[0] (List.getElem?_eq_getElem h0) 0 _ rfl
      exact World.block_lt_of_cell? w _ h
theorem Split_any (s : ByteArray) (w : World) (hs : s.size < 4294967281) (hw : LibAt w) :
    Calls Tryz.prog 78 #[.string s, .string ⟨#[44]⟩] w fun e w' => ∃ (p : Option Addr) (xs : List ByteArray) (c : Nat), e = .returned (.slice p xs.length c) ∧ IsRow (fun x : ByteArray => [.string x]) 1 w' (.slice p xs.length c) xs ∧ xs.map (·.data.toList) = splitC s.data.toList ∧ w.Exts w' := by
  obtain ⟨m, hm⟩ := hw.most
  refine (Any.strings_Split Tryz.lays146 (by kernel_rfl) s ⟨#[44]⟩ m w hs hm (by decide)).mono fun e w' ⟨he, hw'⟩ => ?_
  have hl := Lib.splitB_all ⟨#[44]⟩ (by decide) 0 _ s rfl
  have hd := Lib.splitB_data ⟨#[44]⟩ 0 (Lib.countB s ⟨#[44]⟩) s
  refine ⟨_, Lib.splitB ⟨#[44]⟩ 0 (Lib.countB s ⟨#[44]⟩) s, Lib.countB s ⟨#[44]⟩ + 1, by rw [hl]; exact he, ?_, ?_, hw' ▸ (World.Exts.refl w).alloc _⟩
  · refine ⟨_, w.heap.size, 0, _, rfl, by have := Lib.countB_le ⟨#[44]⟩ (by decide) _ s (Nat.le_refl _); omega, fun _ => ⟨rfl, ?_⟩, fun i x hx j u hu => ?_⟩
    · subst hw'
      exact inferInstance
    · subst hw'
      cases j with
      | succ j => simp at hu
      | zero =>
        simp at hu
        subst hu
        generalize Lib.splitB ⟨#[44]⟩ 0 (Lib.countB s ⟨#[44]⟩) s = xs at hx ⊢
        have h := LaysAs.cell (laysAs_size w (.cells (xs.map Value.string).toArray (Tryz.lays146_ren.t 9)) rfl) i (.string x) (by rw [List.getElem?_map, hx]; rfl)
        simpa using h
  · rw [hd]
    exact splitK_splitC _ _ rfl

/-- A line that is cut off a text. -/
theorem Cut_any (s : ByteArray) (w : World) (hs : s.size < 4294967281) (hw : LibAt w) :
    Calls Tryz.prog 72 #[.string s, .string ⟨#[10]⟩] w fun e w' => ∃ a b, e = .returned (.tuple #[.string a, .string b, .bool (decide (s.data.toList.idxOf 10 < s.size))]) ∧
      (s.data.toList.idxOf 10 < s.size → a.data.toList = s.data.toList.take (s.data.toList.idxOf 10) ∧ b.data.toList = s.data.toList.drop (s.data.toList.idxOf 10 + 1)) ∧ w.Exts w' := by
  obtain ⟨m, hm⟩ := hw.most
  refine (Any.strings_Cut Tryz.lays145 s ⟨#[10]⟩ m w hs hm).mono fun e w' ⟨he, n, hw'⟩ => ?_
  refine ⟨⟨(Lib.cut s.data.toList [10]).1.toArray⟩, ⟨(Lib.cut s.data.toList [10]).2.1.toArray⟩, ?_, fun h => ?_, hw' ▸ (World.Exts.refl w).drewN n⟩
  · refine Eq.trans he ?_
    have hi := index_one 10 s.data.toList
    rw [tx_len] at hi
    have hd : (Lib.cut s.data.toList [10]).2.2 = decide (s.data.toList.idxOf 10 < s.size) := by
      unfold Lib.cut
      rw [hi]
      by_cases h : s.data.toList.idxOf 10 < s.size
      · rw [if_pos h, if_pos (by omega)]; simp [h]
      · rw [if_neg h, if_neg (by omega)]; simp [h]
    exact congrArg (fun b => Ending.returned (.tuple #[_, _, .bool b])) hd
  · have hi := index_one 10 s.data.toList
    rw [tx_len, if_pos h] at hi
    have hc : Lib.cut s.data.toList [10] = (s.data.toList.take (s.data.toList.idxOf 10), s.data.toList.drop (s.data.toList.idxOf 10 + 1), true) := by
      unfold Lib.cut
      rw [hi, if_pos (by omega)]
      simp
    exact ⟨congrArg Prod.fst hc, congrArg (fun x => x.2.1) hc⟩
theorem CutPrefix_any (s : ByteArray) (w : World) :
    Calls Tryz.prog 75 #[.string s, .string ⟨#[101, 110, 100, 32]⟩] w fun e w' => ∃ r, e = .returned (.tuple #[.string r, .bool (endW.isPrefixOf s.data.toList)]) ∧ (endW.isPrefixOf s.data.toList = true → r.data.toList = s.data.toList.drop 4) ∧ w.Exts w' :=
  (Any.strings_CutPrefix Tryz.lays103 s ⟨#[101, 110, 100, 32]⟩ w).mono fun e w' ⟨he, hw'⟩ => ⟨_, he, fun h => by
    show Lib.trimPrefix s.data.toList endW = _
    unfold Lib.trimPrefix
    rw [if_pos (show Lib.hasPrefix s.data.toList endW = true from h)]
    rfl, hw' ▸ World.Exts.refl w⟩
theorem HasSuffix_any (s : ByteArray) (w : World) (hs : s.size ≤ 9223372036854775807) :
    Calls Tryz.prog 46 #[.string s, .string ⟨#[10]⟩] w fun e w' => e = .returned (.bool (Lib.hasSuffix s.data.toList [10])) ∧ w.Exts w' :=
  (Any.strings_HasSuffix Tryz.lays100 s ⟨#[10]⟩ w hs).mono fun e w' ⟨he, hw'⟩ => ⟨he, hw' ▸ World.Exts.refl w⟩
theorem Contains_any (s : ByteArray) (w : World) :
    Calls Tryz.prog 47 #[.string s, .string ⟨#[63]⟩] w fun e w' => e = .returned (.bool (decide ((63 : UInt8) ∈ s.data.toList))) ∧ w.Exts w' :=
  (Any.strings_Contains_one Tryz.lays144 s 63 w).mono fun e w' ⟨he, hw'⟩ => ⟨by
    rw [he, indexByte_one]
    congr 2
    rw [Bool.eq_iff_iff, decide_eq_true_eq, decide_eq_true_eq, ← List.idxOf_lt_length_iff]
    split <;> omega, hw' ▸ World.Exts.refl w⟩
theorem Index_any (s : ByteArray) (w : World) (h : (63 : UInt8) ∈ s.data.toList) :
    Calls Tryz.prog 99 #[.string s, .string ⟨#[63]⟩] w fun e w' => e = .returned (.int .i64 (s.data.toList.idxOf 63 : Nat)) ∧ w.Exts w' :=
  (Any.strings_Index_one Tryz.lays143 s 63 w).mono fun e w' ⟨he, hw'⟩ => ⟨by
    rw [he, indexByte_one, if_pos (List.idxOf_lt_length_iff.2 h)], hw' ▸ World.Exts.refl w⟩
theorem Count_any (s : ByteArray) (w : World) :
    Calls Tryz.prog 100 #[.string s, .string ⟨#[63]⟩] w fun e w' => e = .returned (.int .i64 (s.data.toList.count 63 : Nat)) ∧ w.Exts w' :=
  (Any.strings_Count_one Tryz.lays138 s 63 w).mono fun e w' ⟨he, hw'⟩ => ⟨by rw [he]; rfl, hw' ▸ World.Exts.refl w⟩
/-- Whether some byte is no digit, found rune by rune. -/
theorem idxFunc_digits (s : ByteArray) : ∀ (f pos : Nat), s.size ≤ pos + f → (0 ≤ Lib.idxFuncFrom (fun r => decide (r < 48) || decide (57 < r)) true s f pos ↔ ∃ (k : Nat) (hk : k < s.size), pos ≤ k ∧ digitB (s[k]'hk) = false)
  | 0, pos, h => by
    unfold Lib.idxFuncFrom
    constructor
    · omega
    · rintro ⟨k, hk, h1, _⟩
      omega
  | f + 1, pos, h => by
    unfold Lib.idxFuncFrom
    by_cases hp : pos < s.size
    · rw [if_pos hp]
      rcases Nat.lt_or_ge (s[pos]'hp).toNat 128 with ha | ha
      · rw [decode_ascii s pos hp ha]
        dsimp only
        by_cases hd : digitB (s[pos]'hp) = true
        · have hd2 := hd
          unfold digitB at hd2
          simp at hd2
          rw [if_neg (by simp; omega), idxFunc_digits s f (pos + 1) (by omega)]
          constructor
          · rintro ⟨k, hk, h1, h2⟩
            exact ⟨k, hk, by omega, h2⟩
          · rintro ⟨k, hk, h1, h2⟩
            refine ⟨k, hk, ?_, h2⟩
            rcases Nat.eq_or_lt_of_le h1 with e | e
            · subst e; rw [hd] at h2; cases h2
            · omega
        · have hd2 : digitB (s[pos]'hp) = false := by simpa using hd
          have hd3 := hd2
          unfold digitB at hd3
          simp at hd3
          rw [if_pos (by simp; omega)]
          exact ⟨fun _ => ⟨pos, hp, Nat.le_refl _, hd2⟩, fun _ => by omega⟩
      · have hh := decode_high s pos hp ha
        rw [if_pos (by simp; omega)]
        refine ⟨fun _ => ⟨pos, hp, Nat.le_refl _, ?_⟩, fun _ => by omega⟩
        unfold digitB
        simp
        omega
    · rw [if_neg hp]
      constructor
      · omega
      · rintro ⟨k, hk, h1, _⟩
        omega
theorem idxFunc_all (s : ByteArray) : decide (0 ≤ Lib.idxFunc (fun r => decide (r < 48) || decide (57 < r)) true s) = !(s.data.toList.all digitB) := by
  unfold Lib.idxFunc
  rw [Bool.eq_iff_iff, decide_eq_true_eq, idxFunc_digits s s.size 0 (by omega)]
  simp only [Bool.not_eq_true', List.all_eq_false, Nat.zero_le, true_and]
  constructor
  · rintro ⟨k, hk, h2⟩
    exact ⟨s[k]'hk, List.mem_iff_getElem?.2 ⟨k, tx_get hk⟩, by simpa using h2⟩
  · rintro ⟨x, hx, h2⟩
    obtain ⟨k, hk⟩ := List.mem_iff_getElem?.1 hx
    have hlt : k < s.size := by rw [← tx_len]; exact (List.getElem?_eq_some_iff.1 hk).1
    rw [tx_get hlt] at hk
    cases hk
    exact ⟨k, hlt, by simpa using h2⟩
/-- What parses a number: its value and no error, or an error. -/
theorem Atoi_any (s : ByteArray) (hs : s.size ≤ 1000000) (w : World) (hw : LibAt w) :
    Calls Tryz.prog 117 #[.string s] w fun e w' => w.Exts w' ∧ ((∃ v : Int, Lib.atoiAll s.data.toList = .ok v ∧ e = .returned (.tuple #[.int .i64 v, .nilIface])) ∨ ((∀ v, Lib.atoiAll s.data.toList ≠ .ok v) ∧ ∃ (v : Int) (t : TypeId) (u : Value), e = .returned (.tuple #[.int .i64 v, .iface t u]))) := by
  rcases h : Lib.atoiAll s.data.toList with v | _ | _
  · refine (Any.strconv_Atoi_ok Tryz.laysC172 s (by omega) v h w).mono fun e w' ⟨he, hw'⟩ => ⟨?_, .inl ⟨v, rfl, he⟩⟩
    rcases hw' with hw' | ⟨t, hw'⟩
    · exact hw' ▸ World.Exts.refl w
    · exact hw' ▸ .of (Lib.bytesWorld_below _ _ _)
  · obtain ⟨tp, p, hp⟩ := hw.syn
    exact (Any.strconv_Atoi_syntax_var Tryz.laysC172 s (by omega) h tp p w hp).mono fun e w' ⟨N, he, _, _, hb⟩ => ⟨.of hb, .inr ⟨fun v hv => (by cases hv), _, _, _, he⟩⟩
  · obtain ⟨tp, p, hp⟩ := hw.rng
    exact (Any.strconv_Atoi_range_var Tryz.laysC172 s (by omega) h tp p w hp).mono fun e w' ⟨N, he, _, _, hb⟩ => ⟨.of hb, .inr ⟨fun v hv => (by cases hv), _, _, _, he⟩⟩
end Go.Proofs.YtcickafaomfbmaaGreatDoor
