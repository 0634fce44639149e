/-
  Several texts in one: see the heads of its parts.
-/

import Derived.Test.YtcickafaomfbmaaGreatDoorZSBksVdT
import Derived.Test.YtcickafaomfbmaaGreatDoorZSBksVjL
import Derived.Test.YtcickafaomfbmaaGreatDoorZSBksVeX
import Derived.Test.YtcickafaomfbmaaGreatDoorZSBksTm
import Derived.Test.YtcickafaomfbmaaGreatDoorZSBksGiK
import Derived.Test.YtcickafaomfbmaaGreatDoorZSBksBt
import Derived.Deep.DeepCutAuto
import Derived.Test.YtcickafaomfbmaaGreatDoorZSBksIr
import Derived.RangeFuncLeaves
import Derived.Test.YtcickafaomfbmaaGreatDoorZSBksBs
/-
  Walks of package sheet: what no two rows share, the least number of rows, all kinds of sheets, the first number of which something is so, where a text is wrong.
-/
namespace Kr
open Go
set_option linter.unusedVariables false
/-- The second numbers of rows. -/
def secs (l : List (List Int)) : List Int := l.map fun x => nth x 1
theorem secs_snoc {l : List (List Int)} {k : Nat} {x : List Int} (h : l[k]? = some x) : secs (l.take (k + 1)) = secs (l.take k) ++ [nth x 1] := by unfold secs; rw [take_snoc h, List.map_append]; rfl
theorem secs_nodup {l : List (List Int)} {k : Nat} {x : List Int} (h : l[k]? = some x) : (secs (l.take (k + 1))).Nodup ↔ (secs (l.take k)).Nodup ∧ nth x 1 ∉ secs (l.take k) := by
  rw [secs_snoc h, List.nodup_append]
  constructor
  · rintro ⟨h1, _, h3⟩
    exact ⟨h1, fun hm => h3 _ hm _ (List.mem_singleton_self _) rfl⟩
  · rintro ⟨h1, h2⟩
    refine ⟨h1, by simp, fun a ha b hb e => ?_⟩
    rw [List.mem_singleton] at hb
    subst hb e
    exact h2 ha
theorem secs_sub {l : List (List Int)} {k : Nat} (h : ¬ (secs (l.take k)).Nodup) : ¬ (secs l).Nodup := fun hn => h (by
  unfold secs at *
  rw [← List.take_append_drop k l, List.map_append] at hn
  exact (List.nodup_append.1 hn).1)
theorem secs_mem {l : List (List Int)} {k : Nat} {x : List Int} (h : l[k]? = some x) : nth x 1 ∈ secs l := List.mem_map.2 ⟨x, List.mem_of_getElem? h, rfl⟩
/-- The least second number of rows that are there. -/
def leastL (l : List (List Int)) : Int := l.foldl (fun n x => min n (nth x 1)) (nth (l.getD 0 []) 1)
theorem leastL_two {l : List (List Int)} (h0 : 0 < l.length) (h : ∀ x ∈ l, nth x 1 ≤ 2) : leastL l = shLeast l := by
  match l, h0 with
  | x :: l, _ =>
    have hx := h x (List.mem_cons_self ..)
    unfold leastL shLeast
    show (x :: l).foldl _ (nth x 1) = (x :: l).foldl _ 2
    rw [List.foldl_cons, List.foldl_cons]
    congr 1
    omega
theorem leastL_snoc {l : List (List Int)} {k : Nat} {x : List Int} (a : Int) (h : l[k]? = some x) : (l.take (k + 1)).foldl (fun n x => min n (nth x 1)) a = min ((l.take k).foldl (fun n x => min n (nth x 1)) a) (nth x 1) := by rw [take_snoc h, List.foldl_append]; rfl
theorem firstN_now {p : Nat → Bool} {lo n : Nat} (h0 : 0 < n) (h : p lo = true) : firstN p lo n = lo := by
  match n, h0 with
  | n + 1, _ => unfold firstN; rw [if_pos h]
theorem firstN_next {p : Nat → Bool} {lo n : Nat} (h0 : 0 < n) (h : p lo = false) : firstN p lo n = firstN p (lo + 1) (n - 1) := by
  match n, h0 with
  | n + 1, _ => rw [firstN, if_neg (by rw [h]; decide)]; rfl
end Kr
namespace Go.Proofs.YtcickafaomfbmaaGreatDoor
open Go.RowKit Go.Maps Kr
set_option linter.unusedSimpArgs false
set_option linter.unusedVariables false

set_option maxHeartbeats 1000000 in
theorem sheet_least_any (ps : List (List Int × Value)) (v : Value) (w : World) (h : ListsAt w v ps) (h0 : 0 < ps.length) (hn : ps.length ≤ 1000) (hl : ∀ x ∈ ps, x.1.length = 2) :
    Calls Tryz.prog 58 #[v] w fun e w' => e = .returned (.int .i64 (leastL (ps.map Prod.fst))) ∧ w.Exts w' := by
  obtain ⟨b, o, cap, rfl⟩ := lists_base h h0
  have hrow := list_row h hl (by decide)
  obtain ⟨x, bx, ox, cx, hx, hxl, d, hcx, hcs, _⟩ := hrow 0 h0
  have c1 := hcs 1 (by decide)
  have lb := Lays.of_cell d
  have lx := Lays.of_cell c1
  simp only [Nat.add_zero] at d
  obtain ⟨a, ha⟩ : ∃ a, nth x 1 = a := ⟨_, rfl⟩
  have hfin : leastL (ps.map Prod.fst) = (ps.map Prod.fst).foldl (fun n x => min n (nth x 1)) a := by
    unfold leastL
    rw [List.getD_eq_getElem?_getD, hx, ← ha]
    rfl
  rw [ha] at c1
  rw [hfin]
  have hpl : (ps.map Prod.fst).length = ps.length := List.length_map _
  have HROW := Lib.hid hrow
  clear hrow
  have HPL := Lib.hid hpl
  clear hpl
  have w0 : (0 : Int) < (ps.length : Int) := by omega
  clear h hl hx hxl hcs ha hfin
  go_enter Tryz.func58, Tryz.ntmps58
  go_wp2_with fail
  clear c1 d lx
  go_loopw [3, 5, 13] (fun n _ i wr => ∃ k : Nat, k ≤ ps.length ∧ i = .int .i64 k ∧ n = .int .i64 (((ps.map Prod.fst).take k).foldl (fun n x => min n (nth x 1)) a) ∧ w.Exts wr) (fun _ _ i _ => ps.length - (intOf i).toNat)
  case atStart => exact ⟨0, Nat.zero_le _, rfl, rfl, exq⟩
  case round =>
    obtain ⟨k, hk, rfl, rfl, X, rfl⟩ := hrel
    rcases Nat.lt_or_ge k ps.length with hlt | hge
    · obtain ⟨x, bx, ox, cx, hx, hxl, d, hcx, hcs, _⟩ := HROW.out k hlt
      have c1 := hcs 1 (by decide)
      have lx := Lays.of_cell c1
      have hnx := leastL_snoc a hx
      generalize ((ps.map Prod.fst).take k).foldl (fun n x => min n (nth x 1)) a = m at *
      generalize nth x 1 = y at *
      have w1 : (k : Int) < (ps.length : Int) := by omega
      have HNX := Lib.hid hnx
      clear hnx
      clear hx hxl hcs
      go_wp2_with fail
      go_roundw
      case rel => exact ⟨k + 1, by omega, by go_num, by rw [HNX.out], exq⟩
      case measure => simp [intOf]; omega
    · have hkn : k = ps.length := by omega
      have hE2 : (ps.map Prod.fst).take k = ps.map Prod.fst := by rw [hkn, ← HPL.out, List.take_length]
      rw [hE2]
      obtain ⟨m, hm⟩ : ∃ m, (ps.map Prod.fst).foldl (fun n x => min n (nth x 1)) a = m := ⟨_, rfl⟩
      rw [hm]
      have HM := Lib.hid hm
      clear hm
      clear hE2 hkn
      have w1 : ¬ (k : Int) < (ps.length : Int) := by omega
      go_wp2_with fail
      go_ret
      exact ⟨by rw [HM.out]; rfl, exq⟩

set_option maxRecDepth 4000 in
set_option maxHeartbeats 2000000 in
theorem sheet_apart_any (ps : List (List Int × Value)) (v : Value) (w : World) (h : ListsAt w v ps) (hl : ∀ x ∈ ps, x.1.length = 2) (hn : ps.length ≤ 1000) (hwf : ∀ x ∈ ps, 0 ≤ nth x.1 1 ∧ nth x.1 1 ≤ 9999) :
    Calls Tryz.prog 57 #[v] w fun e w' => e = .returned (.bool (decide (secs (ps.map Prod.fst)).Nodup)) ∧ w.Exts w' := by
  obtain ⟨q, cap, hv⟩ := h.row.len
  subst hv
  have hpl : (ps.map Prod.fst).length = ps.length := List.length_map _
  have hrow : ∀ k, k < ps.length → ∃ b o, q = some ⟨b, o, none⟩ ∧ ∃ x bx ox cx, (ps.map Prod.fst)[k]? = some x ∧ w.cell? ⟨b, o + k, none⟩ = some (.slice (some ⟨bx, ox, none⟩) 2 cx) ∧ 2 ≤ cx ∧ w.cell? ⟨bx, ox + 1, none⟩ = some (.int .i64 (nth x 1)) ∧ 0 ≤ nth x 1 ∧ nth x 1 ≤ 9999 := fun k hk => by
    obtain ⟨b, o, c, e⟩ := lists_base h (by omega)
    cases e
    obtain ⟨x, bx, ox, cx, h1, h2, h3, h4, h5, _⟩ := list_row h hl (by decide) k hk
    obtain ⟨y, hy, e⟩ := List.mem_map.1 (List.mem_of_getElem? h1)
    have h6 := hwf y hy
    rw [e] at h6
    exact ⟨b, o, rfl, x, bx, ox, cx, h1, h3, h4, h5 1 (by decide), h6⟩
  have HROW := Lib.hid hrow
  clear hrow
  have HPL := Lib.hid hpl
  clear hpl
  clear h hl hwf
  have hmm := @run_makeMap Tryz.prog
  go_enter Tryz.func57, Tryz.ntmps57
  go_wp2_with fail
  have hI0 := World.ownsMap_made w Tryz.prog 3 readSelf
  have HI0 := Lib.hid hI0
  clear hI0
  go_loopw [5, 11] (fun _ i wr => ∃ (k : Nat) (D : DataW Value), k ≤ ps.length ∧ i = .int .i64 k ∧ Hid (wr.ownsMap Tryz.prog 3 readSelf w.heap.size k D) ∧ Hid (Idle D fun j => decide (j ∈ secs ((ps.map Prod.fst).take k))) ∧ w.Exts wr) (fun _ i _ => ps.length - (intOf i).toNat)
  case atStart => exact ⟨0, .map [], Nat.zero_le _, rfl, HI0, Lib.hid (Idle.nil.same fun i => by simp [secs]), exq⟩
  case round =>
    obtain ⟨k, D, hk, rfl, HI, HID, hE⟩ := hrel
    rcases Nat.lt_or_ge k ps.length with hlt | hge
    · obtain ⟨b, o, rfl, x, bx, ox, cx, hx, d, hcx, c1, hy1, hy2⟩ := HROW.out k hlt
      obtain ⟨X, rfl⟩ := hE
      have lb := Lays.of_cell d
      have lx := Lays.of_cell c1
      have hsn := secs_snoc hx
      obtain ⟨y, hy⟩ : ∃ y, nth x 1 = y := ⟨_, rfl⟩
      rw [hy] at c1 hsn hy1 hy2
      have hkey : keyOf Tryz.prog 3 (.int .i64 y) = some (.int .i64 y) := keyOf_int_mk Tryz.underlying3 (WalkArith.wf_i64 (by omega))
      have w1 : (k : Int) < (ps.length : Int) := by omega
      have HSN := Lib.hid hsn
      clear hsn
      clear hx hy
      go_wp2_with (at_mapUpdate; refine wpList_mapUpdate_own _ rfl _ _ _ 175 rfl 3 4 law_int Tryz.underlying175 readSelf _ _ D rfl HI.out (by unfold maxLen; omega) _ _ _ rfl rfl hkey _ [] rfl ?_)
      intro w2 hown2 hg2
      have hE2 : w.Exts w2 := exts_turned (b := w.heap.size) exq (Nat.le_refl _) hg2
      have HE2 := Lib.hid hE2
      clear hE2
      have HOWN2 := Lib.hid hown2
      clear hown2
      clear hg2
      go_wp2_with fail
      go_roundw
      case rel =>
        refine ⟨k + 1, _, by omega, by go_num, HOWN2, Lib.hid ((HID.out.put y).same fun i => ?_), HE2.out⟩
        rw [HSN.out, Bool.eq_iff_iff]
        simp only [Bool.or_eq_true, decide_eq_true_eq, List.mem_append, List.mem_singleton, beq_iff_eq]
        exact ⟨fun h => h.symm, fun h => h.symm⟩
      case measure => simp [intOf]; omega
    · have hkn : k = ps.length := by omega
      have hall : (ps.map Prod.fst).take k = ps.map Prod.fst := by rw [hkn, ← HPL.out, List.take_length]
      have hid1 := HID.out
      rw [hall] at hid1
      have hI1 := HI.out.mono (show k ≤ ps.length + 0 by omega)
      have HID1 := Lib.hid hid1
      clear hid1
      have HI1 := Lib.hid hI1
      clear hI1
      clear HID HI hall hkn
      obtain ⟨X, rfl⟩ := hE
      have w1 : ¬ (k : Int) < (ps.length : Int) := by omega
      go_wp2_with fail
      clear w1 hge hk
      go_loopw [7, 22] (fun _ i wr => ∃ (k : Nat) (D : DataW Value), k ≤ ps.length ∧ i = .int .i64 k ∧ Hid (wr.ownsMap Tryz.prog 3 readSelf w.heap.size ps.length D) ∧ Hid (Idle D fun j => decide (j ∈ secs (ps.map Prod.fst)) && decide (j ∉ secs ((ps.map Prod.fst).take k))) ∧ Hid ((secs ((ps.map Prod.fst).take k)).Nodup) ∧ w.Exts wr) (fun _ i _ => ps.length - (intOf i).toNat)
      case atStart => exact ⟨0, _, Nat.zero_le _, rfl, Lib.hid HI1.out, Lib.hid (HID1.out.same fun i => by simp [secs]), Lib.hid (by simp [secs]), exq⟩
      case round =>
        obtain ⟨k, D, hk, rfl, HI, HID, HND, hE⟩ := hrel
        clear HI1 HID1
        obtain ⟨X2, rfl⟩ := hE
        rcases Nat.lt_or_ge k ps.length with hlt | hge
        · obtain ⟨b, o, rfl, x, bx, ox, cx, hx, d, hcx, c1, hy1, hy2⟩ := HROW.out k hlt
          have lb := Lays.of_cell d
          have lx := Lays.of_cell c1
          have hsn := secs_snoc hx
          have hnd := secs_nodup hx
          have hme := secs_mem hx
          obtain ⟨y, hy⟩ : ∃ y, nth x 1 = y := ⟨_, rfl⟩
          rw [hy] at c1 hsn hy1 hy2 hnd hme
          have hkey : keyOf Tryz.prog 3 (.int .i64 y) = some (.int .i64 y) := keyOf_int_mk Tryz.underlying3 (WalkArith.wf_i64 (by omega))
          have w1 : (k : Int) < (ps.length : Int) := by omega
          have hlk := look_self HI.out law_int Tryz.underlying175 (zero_bool _) hkey (HID.out.at_ y)
          rw [show decide (y ∈ secs (ps.map Prod.fst)) = true by simpa using hme, Bool.true_and] at hlk
          have HSN := Lib.hid hsn
          clear hsn
          have HNDS := Lib.hid hnd
          clear hnd
          clear hx hy hme
          by_cases hin : y ∈ secs ((ps.map Prod.fst).take k)
          · rw [show decide (y ∉ secs ((ps.map Prod.fst).take k)) = false by simpa using hin] at hlk
            have hbad : decide (secs (ps.map Prod.fst)).Nodup = false := by
              rw [decide_eq_false_iff_not]
              exact secs_sub (k := k + 1) (fun hh => (HNDS.out.1 hh).2 hin)
            have HBAD := Lib.hid hbad
            clear hbad
            clear hin
            go_wp2_with fail
            go_ret
            exact ⟨by rw [HBAD.out]; rfl, exq⟩
          · rw [show decide (y ∉ secs ((ps.map Prod.fst).take k)) = true by simpa using hin] at hlk
            have hnd2 := HNDS.out.2 ⟨HND.out, hin⟩
            have HND2 := Lib.hid hnd2
            clear hnd2
            clear hin
            go_wp2_with (at_delete; refine wpList_delete_own _ rfl _ _ 175 3 rfl 4 law_int Tryz.underlying175 readSelf _ _ D rfl HI.out _ _ rfl hkey ?_)
            intro w2 hown2 hturn
            have hE2 : w.Exts w2 := exts_turned (b := w.heap.size) exq (Nat.le_refl _) hturn.grown
            have HE2 := Lib.hid hE2
            clear hE2
            have HOWN2 := Lib.hid hown2
            clear hown2
            clear hturn hlk
            go_wp2_with fail
            go_roundw
            case rel =>
              refine ⟨k + 1, _, by omega, by go_num, HOWN2, Lib.hid ((HID.out.del y).same fun i => ?_), HND2, HE2.out⟩
              rw [HSN.out, Bool.eq_iff_iff]
              simp only [Bool.and_eq_true, Bool.not_eq_true', beq_eq_false_iff_ne, decide_eq_true_eq, List.mem_append, List.mem_singleton, not_or]
              exact ⟨fun ⟨a1, a2, a3⟩ => ⟨a2, a3, a1⟩, fun ⟨a1, a2, a3⟩ => ⟨a3, a1, a2⟩⟩
            case measure => simp [intOf]; omega
        · have hkn : k = ps.length := by omega
          have hgood := HND.out
          rw [hkn, ← HPL.out, List.take_length] at hgood
          have hgd : decide (secs (ps.map Prod.fst)).Nodup = true := by simpa using hgood
          have HGD := Lib.hid hgd
          clear hgd
          clear hgood hkn HND HID HI
          have w1 : ¬ (k : Int) < (ps.length : Int) := by omega
          go_wp2_with fail
          go_ret
          exact ⟨by rw [HGD.out]; rfl, exq⟩

/-- All kinds, as they are returned. -/
def kindsV : Value := .agg #[.string ⟨#[]⟩, .int .i64 0, .nilFunc, .nilFunc, .string ⟨#[114, 105, 100, 101]⟩, .int .i64 2, .func (.func 59) #[] #[], .func (.func 60) #[] #[], .string ⟨#[115, 116, 97, 114, 116]⟩, .int .i64 2, .func (.func 62) #[] #[], .func (.func 63) #[] #[], .string ⟨#[105, 99, 101]⟩, .int .i64 5, .func (.func 64) #[] #[], .func (.func 65) #[] #[], .string ⟨#[106, 117, 100, 103, 101]⟩, .int .i64 2, .func (.func 66) #[] #[], .func (.func 67) #[] #[]]
theorem sheet_kinds_any (w : World) : Calls Tryz.prog 29 #[] w fun e w' => e = .returned kindsV ∧ w.Exts w' := by
  go_enter Tryz.func29, Tryz.ntmps29
  go_wp2_with (((with_reducible refine wpList_store_new (t := 82) (cells := #[.string ⟨#[]⟩, .int .i64 0, .nilFunc, .nilFunc, .string ⟨#[114, 105, 100, 101]⟩, .int .i64 2, .func (.func 59) #[] #[], .func (.func 60) #[] #[], .string ⟨#[115, 116, 97, 114, 116]⟩, .int .i64 2, .func (.func 62) #[] #[], .func (.func 63) #[] #[], .string ⟨#[105, 99, 101]⟩, .int .i64 5, .func (.func 64) #[] #[], .func (.func 65) #[] #[], .string ⟨#[106, 117, 100, 103, 101]⟩, .int .i64 2, .func (.func 66) #[] #[], .func (.func 67) #[] #[]]) ?_ ?_ ?_ ?_ ?_ ?_); (· first | rfl | (simp [go_sem]; done)); (· rfl); (· kernel_rfl); (· rfl); (· simp [Value.oneCell'])))
  have hload := run_loadVar_row (P := Tryz.prog) (w.alloc (.cells #[.string ⟨#[]⟩, .int .i64 0, .nilFunc, .nilFunc, .string ⟨#[114, 105, 100, 101]⟩, .int .i64 2, .func (.func 59) #[] #[], .func (.func 60) #[] #[], .string ⟨#[115, 116, 97, 114, 116]⟩, .int .i64 2, .func (.func 62) #[] #[], .func (.func 63) #[] #[], .string ⟨#[105, 99, 101]⟩, .int .i64 5, .func (.func 64) #[] #[], .func (.func 65) #[] #[], .string ⟨#[106, 117, 100, 103, 101]⟩, .int .i64 2, .func (.func 66) #[] #[], .func (.func 67) #[] #[]] 82)) w.heap.size 82 82 #[.string ⟨#[]⟩, .int .i64 0, .nilFunc, .nilFunc, .string ⟨#[114, 105, 100, 101]⟩, .int .i64 2, .func (.func 59) #[] #[], .func (.func 60) #[] #[], .string ⟨#[115, 116, 97, 114, 116]⟩, .int .i64 2, .func (.func 62) #[] #[], .func (.func 63) #[] #[], .string ⟨#[105, 99, 101]⟩, .int .i64 5, .func (.func 64) #[] #[], .func (.func 65) #[] #[], .string ⟨#[106, 117, 100, 103, 101]⟩, .int .i64 2, .func (.func 66) #[] #[], .func (.func 67) #[] #[]] (0, 0) _ (World.alloc_heap_new w _) Tryz.underlying82 rfl (by kernel_rfl)
  refine bodyPost_ret (v := kindsV) ?_ rfl ⟨rfl, exq⟩
  rw [show (Value.agg #[.string ⟨#[]⟩, .int .i64 0, .nilFunc, .nilFunc, .string ⟨#[114, 105, 100, 101]⟩, .int .i64 2, .func (.func 59) #[] #[], .func (.func 60) #[] #[], .string ⟨#[115, 116, 97, 114, 116]⟩, .int .i64 2, .func (.func 62) #[] #[], .func (.func 63) #[] #[], .string ⟨#[105, 99, 101]⟩, .int .i64 5, .func (.func 64) #[] #[], .func (.func 65) #[] #[], .string ⟨#[106, 117, 100, 103, 101]⟩, .int .i64 2, .func (.func 66) #[] #[], .func (.func 67) #[] #[]]) = kindsV from rfl] at hload
  simp [results, Tryz.results29, Act.put, asAddr, Sem.run_bind, Result.andThen, hload]

theorem index_kind1 (W : World) : Sem.run Tryz.prog (Instr.index 82 kindsV (.int .u8 1)) W = .ok (.agg #[.string ⟨#[114, 105, 100, 101]⟩, .int .i64 2, .func (.func 59) #[] #[], .func (.func 60) #[] #[]]) W := by kernel_rfl
theorem index_kind2 (W : World) : Sem.run Tryz.prog (Instr.index 82 kindsV (.int .u8 2)) W = .ok (.agg #[.string ⟨#[115, 116, 97, 114, 116]⟩, .int .i64 2, .func (.func 62) #[] #[], .func (.func 63) #[] #[]]) W := by kernel_rfl
theorem index_kind3 (W : World) : Sem.run Tryz.prog (Instr.index 82 kindsV (.int .u8 3)) W = .ok (.agg #[.string ⟨#[105, 99, 101]⟩, .int .i64 5, .func (.func 64) #[] #[], .func (.func 65) #[] #[]]) W := by kernel_rfl
theorem index_kind4 (W : World) : Sem.run Tryz.prog (Instr.index 82 kindsV (.int .u8 4)) W = .ok (.agg #[.string ⟨#[106, 117, 100, 103, 101]⟩, .int .i64 2, .func (.func 66) #[] #[], .func (.func 67) #[] #[]]) W := by kernel_rfl
theorem field_kind0 (a b c d : Value) (W : World) : Sem.run Tryz.prog (Instr.field 81 (.agg #[a, b, c, d]) 0) W = .ok a W := by kernel_rfl

theorem sheet_lines_any (s : ByteArray) (w : World) :
    Calls Tryz.prog 34 #[.string s] w fun e w' => e = .returned (.func (.func 71) #[] #[.pointer (some ⟨w.heap.size, 0, none⟩)]) ∧ w' = w.alloc (.cells #[.string s] 9) := by
  go_enter Tryz.func34, Tryz.ntmps34
  go_wp2_with fail
  go_ret
  exact ⟨rfl, rfl⟩

/-- Where a text is wrong, and how: the value of the panic. -/
def wrongV (n e : Int) : Value := .iface 89 (.agg #[.int .i64 n, .int .i64 e])
theorem place_must_ok (p : Value) (e : Int) (w : World) : Calls Tryz.prog 36 #[p, .bool true, .int .i64 e] w fun r w' => r = .returned (.tuple #[]) ∧ w.Exts w' := by
  go_enter Tryz.func36, Tryz.ntmps36
  go_wp2_with fail
  go_end0
  exact ⟨rfl, exq⟩
theorem place_must_no (b : Nat) (n e : Int) (w : World) (h : w.cell? ⟨b, 0, none⟩ = some (.int .i64 n)) :
    Calls Tryz.prog 36 #[.pointer (some ⟨b, 0, none⟩), .bool false, .int .i64 e] w fun r w' => r = .panicked [{ v := wrongV n e, recovered := false }] ∧ w.Exts w' := by
  have lb := Lays.of_cell h
  go_enter Tryz.func36, Tryz.ntmps36
  go_wp2_with fail
  exact ⟨rfl, rfl, exq⟩

set_option maxHeartbeats 1000000 in
theorem sheet_first_any (p : Nat → Bool) (lo hi g : Nat) (cb : Array Value) (w : World) (J Jt : Nat → World → Prop) (hlh : lo ≤ hi) (hhi : hi ≤ 100000) (eg : ∀ args w, (callFunc g args).run Tryz.prog w = .ok (.enter g args) w)
    (hf : ∀ k, lo ≤ k → k < hi → ∀ W, J k W → Calls Tryz.prog g (#[.int .i64 (k : Int)] ++ cb) W fun e W' => e = .returned (.bool (p k)) ∧ (p k = true → Jt k W') ∧ (p k = false → J (k + 1) W')) (h0 : J lo w) :
    Calls Tryz.prog 76 #[.int .i64 (lo : Int), .int .i64 (hi : Int), .func (.func g) #[] cb] w fun e w' => e = .returned (.int .i64 (firstN p lo (hi - lo) : Nat)) ∧ (firstN p lo (hi - lo) < hi → Jt (firstN p lo (hi - lo)) w') ∧ (hi ≤ firstN p lo (hi - lo) → J hi w') := by
  obtain ⟨R, hR⟩ : ∃ r, firstN p lo (hi - lo) = r := ⟨_, rfl⟩
  rw [hR]
  have HF := Lib.hid hf
  clear hf
  have HJ0 := Lib.hid h0
  clear h0
  have HR := Lib.hid hR
  clear hR
  go_enter Tryz.func76, Tryz.ntmps76
  go_wp2_with fail
  go_loopw [0] (fun i wr => ∃ k : Nat, lo ≤ k ∧ k ≤ hi ∧ i = .int .i64 (k : Int) ∧ Hid (firstN p k (hi - k) = R) ∧ Hid (J k wr)) (fun i _ => hi - (intOf i).toNat)
  case atStart => exact ⟨lo, Nat.le_refl _, hlh, rfl, HR, HJ0⟩
  case round =>
    obtain ⟨k, hk1, hk2, rfl, HRK, HJ⟩ := hrel
    rcases Nat.lt_or_ge k hi with hlt | hge
    · have hcall := HF.out k hk1 hlt _ HJ.out
      have w1 : (k : Int) < (hi : Int) := by omega
      cases hp : p k with
      | true =>
        rw [hp] at hcall
        have hhit := HRK.out
        rw [firstN_now (by omega) hp] at hhit
        have HCALL := Lib.hid hcall
        clear hcall
        clear hp HRK
        subst hhit
        go_wp2_with (go_at_fn g; refine HCALL.out.mono ?_; rintro e w' ⟨rfl, hjt, -⟩)
        go_ret
        exact ⟨rfl, fun _ => hjt trivial, fun h => absurd h (by omega)⟩
      | false =>
        rw [hp] at hcall
        have hmiss := HRK.out
        rw [firstN_next (by omega) hp] at hmiss
        have HCALL := Lib.hid hcall
        clear hcall
        have HMISS := Lib.hid hmiss
        clear hmiss
        clear hp HRK
        go_wp2_with (go_at_fn g; refine HCALL.out.mono ?_; rintro e w' ⟨rfl, -, hj⟩)
        go_roundw
        case rel => exact ⟨k + 1, by omega, by omega, by go_num, Lib.hid (by rw [show hi - (k + 1) = hi - k - 1 by omega]; exact HMISS.out), Lib.hid (hj trivial)⟩
        case measure => simp [intOf]; omega
    · obtain rfl : k = hi := by omega
      have hend := HRK.out
      rw [Nat.sub_self] at hend
      have hend2 : R = k := hend.symm
      have w1 : ¬ (k : Int) < (k : Int) := by omega
      clear HRK hend
      subst hend2
      go_wp2_with fail
      go_ret
      exact ⟨rfl, HJ.out⟩
end Go.Proofs.YtcickafaomfbmaaGreatDoor

/-
  Walks of package sheet: whether a sheet is valid.
-/
namespace Kr
set_option linter.unusedVariables false
theorem inb_le {lo hi n : Int} (h : inb lo hi n = true) : lo ≤ n ∧ n ≤ hi := by unfold inb at h; simpa using h
theorem shRow_pos {kd : Int} (hk : kd = 1 ∨ kd = 2 ∨ kd = 3 ∨ kd = 4) {i : Nat} {x last : List Int} (h : shRow kd i x last = true) : 0 ≤ nth x 0 ∧ 0 ≤ nth x 1 := by
  rcases hk with rfl | rfl | rfl | rfl
  · rw [show shRow 1 i x last = rideRow i x last from rfl] at h
    unfold rideRow at h
    split at h
    · simp only [Bool.and_eq_true] at h
      exact ⟨(inb_le h.1.1).1, (inb_le h.1.2).1⟩
    · simp only [Bool.and_eq_true] at h
      exact ⟨(inb_le h.1.1).1, (inb_le h.1.2).1⟩
  · rw [show shRow 2 i x last = startRow i x from rfl] at h
    unfold startRow at h
    simp only [Bool.and_eq_true, decide_eq_true_eq] at h
    exact ⟨by omega, (inb_le h.2).1⟩
  · rw [show shRow 3 i x last = iceRow i x last from rfl] at h
    unfold iceRow at h
    simp only [Bool.and_eq_true] at h
    exact ⟨(inb_le h.1.1.1.1.1.1).1, (inb_le h.1.1.1.1.1.2).1⟩
  · rw [show shRow 4 i x last = judgeRow i x from rfl] at h
    unfold judgeRow at h
    simp only [Bool.and_eq_true, decide_eq_true_eq] at h
    exact ⟨by omega, (inb_le h.2).1⟩
theorem rowsOk_all {kd : Int} : ∀ {l : List (List Int)} {k : Nat} {last : List Int}, rowsOk kd k last l = true → ∀ x ∈ l, ∃ (i : Nat) (y : List Int), shRow kd i x y = true
  | [], _, _, _, x, hx => by cases hx
  | y :: l, k, last, h, x, hx => by
    simp only [rowsOk, Bool.and_eq_true, decide_eq_true_eq] at h
    rcases List.mem_cons.1 hx with e | e
    · subst e; exact ⟨_, _, h.1.2⟩
    · exact rowsOk_all h.2 x e
theorem rowsOk_start {l : List (List Int)} (h : rowsOk 2 0 [] l = true) : ∀ x ∈ l, 0 ≤ nth x 1 ∧ nth x 1 ≤ 9999 := fun x hx => by
  obtain ⟨i, y, hs⟩ := rowsOk_all h x hx
  rw [show shRow 2 i x y = startRow i x from rfl] at hs
  unfold startRow at hs
  simp only [Bool.and_eq_true] at hs
  exact inb_le hs.2
theorem rowsOk_judge {l : List (List Int)} (h : rowsOk 4 0 [] l = true) : ∀ x ∈ l, nth x 1 ≤ 2 := fun x hx => by
  obtain ⟨i, y, hs⟩ := rowsOk_all h x hx
  rw [show shRow 4 i x y = judgeRow i x from rfl] at hs
  unfold judgeRow at hs
  simp only [Bool.and_eq_true] at hs
  exact (inb_le hs.2).2
/-- What Check answers. -/
def checkS (kd : Int) (l : List (List Int)) : Int := if sheetB kd l then 0 else 110
theorem checkS_kind {kd : Int} {l : List (List Int)} (h : inb 1 4 kd = false) : checkS kd l = 110 := by unfold checkS; rw [sheetB_kind h]; rfl
theorem checkS_many {kd : Int} {l : List (List Int)} (h : manyOk kd l.length = false) : checkS kd l = 110 := by unfold checkS sheetB; rw [h, Bool.false_and, Bool.and_false]; rfl
theorem checkS_rows {kd : Int} {l : List (List Int)} (h : rowsOk kd 0 [] l = false) : checkS kd l = 110 := by unfold checkS sheetB; rw [h, Bool.false_and, Bool.and_false, Bool.and_false]; rfl
theorem checkS_end {kd : Int} {l : List (List Int)} (h0 : inb 1 4 kd = true) (h1 : manyOk kd l.length = true) (h2 : rowsOk kd 0 [] l = true) : checkS kd l = if lastOk kd l then 0 else 110 := by unfold checkS sheetB; rw [h0, h1, h2]; rfl
end Kr
namespace Go.Proofs.YtcickafaomfbmaaGreatDoor
open Go.RowKit Kr
set_option linter.unusedSimpArgs false
set_option linter.unusedVariables false

theorem lists_take {w : World} {p : Option Addr} {c : Nat} {ps : List (List Int × Value)} (k : Nat) (hk : k ≤ ps.length) (h : ListsAt w (.slice p ps.length c) ps) : ListsAt w (.slice p k c) (ps.take k) := by
  obtain ⟨q, b, o, cap, e, hm, hq, hc⟩ := h.row.ex
  injection e with e1 e2 e3
  subst e1 e3
  have hl : (ps.take k).length = k := by rw [List.length_take]; omega
  refine ⟨⟨p, b, o, c, by rw [hl], ⟨by rw [hl]; omega, hm.2⟩, fun h0 => ?_, fun i x hx j u hu => ?_⟩, fun x hx => h.mem x (List.mem_of_mem_take hx)⟩
  · rw [hl] at h0
    exact hq (by omega)
  · rw [List.getElem?_take] at hx
    split at hx
    · exact hc i x hx j u hu
    · cases hx

/-- The functions of a kind. -/
structure KindFn (kd : Int) (g1 g2 cols : Nat) : Prop where
  e1 : ∀ args w, (callFunc g1 args).run Tryz.prog w = .ok (.enter g1 args) w
  e2 : ∀ args w, (callFunc g2 args).run Tryz.prog w = .ok (.enter g2 args) w
  c : cols = colsOf kd
  rows : ∀ (n : Nat) (W : World), Calls Tryz.prog g1 #[.int .i64 (n : Int)] W fun e w' => e = .returned (.bool (manyOk kd n)) ∧ W.Exts w'
  row : ∀ (i : Nat) (x last : List Int) (b o c : Nat) (vl : Value) (W : World), IsRow (fun x : Int => [.int .i64 x]) 1 W (.slice (some ⟨b, o, none⟩) cols c) x → x.length = cols → LastAt W cols i vl last → i ≤ 1000 →
    Calls Tryz.prog g2 #[.int .i64 (i : Int), .slice (some ⟨b, o, none⟩) cols c, vl] W fun e w' => e = .returned (.bool (shRow kd i x last)) ∧ W.Exts w'
/-- The rows of ice books: proved apart. -/
def IceFn : Prop := ∀ (i : Nat) (x last : List Int) (b o c : Nat) (vl : Value) (w : World), IsRow (fun x : Int => [.int .i64 x]) 1 w (.slice (some ⟨b, o, none⟩) 5 c) x → x.length = 5 → LastAt w 5 i vl last → i ≤ 1000 →
    Calls Tryz.prog 65 #[.int .i64 (i : Int), .slice (some ⟨b, o, none⟩) 5 c, vl] w fun e w' => e = .returned (.bool (iceRow i x last)) ∧ w.Exts w'
theorem kind1 : KindFn 1 59 60 2 := ⟨fun _ _ => by kernel_rfl, fun _ _ => by kernel_rfl, rfl, fun n W => sheet_kinds_1_any n W, fun i x last b o c vl W h1 h2 h3 h4 => sheet_kinds_2_any i x last b o c vl W h1 h2 h3 h4⟩
theorem kind2 : KindFn 2 62 63 2 := ⟨fun _ _ => by kernel_rfl, fun _ _ => by kernel_rfl, rfl, fun n W => sheet_kinds_3_any n W, fun i x last b o c vl W h1 h2 h3 h4 => sheet_kinds_4_any i x b o c vl W h1 h2 h4⟩
theorem kind3 (hI : IceFn) : KindFn 3 64 65 5 := ⟨fun _ _ => by kernel_rfl, fun _ _ => by kernel_rfl, rfl, fun n W => sheet_kinds_5_any n W, fun i x last b o c vl W h1 h2 h3 h4 => hI i x last b o c vl W h1 h2 h3 h4⟩
theorem kind4 : KindFn 4 66 67 2 := ⟨fun _ _ => by kernel_rfl, fun _ _ => by kernel_rfl, rfl, fun n W => sheet_kinds_7_any n W, fun i x last b o c vl W h1 h2 h3 h4 => sheet_kinds_8_any i x b o c vl W h1 h2⟩

attribute [local go_sem] index_kind1 index_kind2 index_kind3 index_kind4
set_option maxRecDepth 4000 in
set_option maxHeartbeats 8000000 in
theorem sheet_Check_any (hI : IceFn) (kd : Int) (ps : List (List Int × Value)) (v : Value) (w : World) (h : ListsAt w v ps) (hn : ps.length ≤ 900) (hk : 0 ≤ kd ∧ kd ≤ 255) :
    Calls Tryz.prog 28 #[.agg #[.int .u8 kd, v]] w fun e w' => e = .returned (.int .i64 (checkS kd (ps.map Prod.fst))) ∧ w.Exts w' := by
  have hb : inAll 1 4 [kd] = inb 1 4 kd := by simp [inAll]
  obtain ⟨q, cap, hv⟩ := h.row.len
  subst hv
  cases hb1 : inb 1 4 kd
  · rw [hb1] at hb
    have hfin := checkS_kind (l := ps.map Prod.fst) hb1
    rw [hfin]
    have HB := Lib.hid hb
    clear hb
    clear h hb1 hfin
    go_enter Tryz.func28, Tryz.ntmps28
    go_wp2_with (go_at_call 56; refine (sheet_in_any 1 4 _ [kd] _ (row_int1 _ _ _ (by simp))).mono ?_; rintro e w' ⟨rfl, X2, rfl⟩; rw [HB.out])
    go_ret
    exact ⟨rfl, exq⟩
  rw [hb1] at hb
  have hkd : kd = 1 ∨ kd = 2 ∨ kd = 3 ∨ kd = 4 := by have := inb_le hb1; omega
  obtain ⟨R, hR⟩ : ∃ r, checkS kd (ps.map Prod.fst) = r := ⟨_, rfl⟩
  rw [hR]
  have hmany := fun (hm : manyOk kd ps.length = false) => hR.symm.trans (checkS_many (l := ps.map Prod.fst) (by rw [List.length_map]; exact hm))
  have hrows := fun (hm : rowsOk kd 0 [] (ps.map Prod.fst) = false) => hR.symm.trans (checkS_rows hm)
  have hend := fun (hm : manyOk kd ps.length = true) (h2 : rowsOk kd 0 [] (ps.map Prod.fst) = true) => hR.symm.trans (checkS_end hb1 (by rw [List.length_map]; exact hm) h2)
  have hstep := fun (k : Nat) (x last : List Int) (hx : (ps.map Prod.fst)[k]? = some x) => rowsOk_step (kd := kd) (last := last) hx
  have hlists := h
  have hpl : (ps.map Prod.fst).length = ps.length := List.length_map _
  have hrow : ∀ k, k < ps.length → ∃ b o, q = some ⟨b, o, none⟩ ∧ ∃ x p cx, (ps.map Prod.fst)[k]? = some x ∧ w.cell? ⟨b, o + k, none⟩ = some (.slice p x.length cx) ∧ IsRow (fun x : Int => [.int .i64 x]) 1 w (.slice p x.length cx) x := fun k hk => by
    obtain ⟨b, o, c, e⟩ := lists_base h (by omega)
    cases e
    obtain ⟨p, b', o', cap', e, hm, hp, hc⟩ := h.row.ex
    cases e
    obtain ⟨e, _⟩ := hp (by omega)
    cases e
    obtain ⟨⟨x, xv⟩, hx⟩ := some_of_lt hk
    have hr := h.mem _ (List.mem_of_getElem? hx)
    obtain ⟨qx, cx, hxv⟩ := hr.len
    have hd := hc k _ hx 0 _ rfl
    dsimp only at hxv hr
    subst hxv
    exact ⟨b, o, rfl, x, qx, cx, by rw [List.getElem?_map, hx]; rfl, by simpa using hd, hr⟩
  have hk5 : kd < 5 := by omega
  have hk0 : 0 ≤ kd := hk.1
  have HB := Lib.hid hb
  clear hb
  have HB1 := Lib.hid hb1
  clear hb1
  have HROW := Lib.hid hrow
  clear hrow
  have HMANY := Lib.hid hmany
  clear hmany
  have HROWS := Lib.hid hrows
  clear hrows
  have HEND := Lib.hid hend
  clear hend
  have HSTEP := Lib.hid hstep
  clear hstep
  have HL := Lib.hid hlists
  clear hlists
  have HPL := Lib.hid hpl
  clear hpl
  have HKD := Lib.hid hkd
  clear hkd
  have HICE := Lib.hid hI
  clear hI
  clear h hR
  go_enter Tryz.func28, Tryz.ntmps28
  go_upto_region 3 with (go_at_call 56; refine (sheet_in_any 1 4 _ [kd] _ (row_int1 _ _ _ (by simp))).mono ?_; rintro e w' ⟨rfl, X2, rfl⟩; rw [HB.out])
  go_cut [3] (fun c wx => ∃ (pp g1 g2 cols : Nat) (wd : Value), c = .pointer (some ⟨pp, 0, none⟩) ∧ Hid (KindFn kd g1 g2 cols) ∧ w.heap.size < pp ∧ (w.alloc (.cells #[.int .u8 kd, .slice q ps.length cap] 36)).Exts wx ∧ Lays wx pp ∧ wx.cell? ⟨pp, 1, none⟩ = some (.int .i64 cols) ∧ wx.cell? ⟨pp, 2, none⟩ = some (.func (.func g1) #[] #[]) ∧ wx.cell? ⟨pp, 3, none⟩ = some (.func (.func g2) #[] #[]))
  case first =>
    rcases HKD.out with rfl | rfl | rfl | rfl
    ·
      refine wp_region_alloc 5 4 _ (.cells #[.string ⟨#[]⟩, .int .i64 0, .nilFunc, .nilFunc] 81) (by kernel_rfl) (fun pp => by kernel_rfl) (by kernel_rfl) rfl rfl rfl (by decide) (fun a W => by kernel_rfl) ?_
      apply Exists.intro
      refine ⟨fun pp hpp T hT L hL => ?_, fun pp => ?_, fun pp Wp hpp hEp hop => ?_⟩
      · haveI := hT.2
        simp only [mvOp, List.set_cons_succ, List.set_cons_zero, List.take_succ_cons, List.take_zero]
        repeat (go_big_quiet_step ((go_at_call 29; exact Calls.in_extT_eq hT (sheet_kinds_any _) rfl)))
        exact wpQuiet_nil hL
      · rfl
      simp only [List.drop_succ_cons, List.drop_zero]
      obtain ⟨X5, rfl⟩ := hEp
      have p0 := cells_block (cs := [.string ⟨#[]⟩, .int .i64 0, .nilFunc, .nilFunc]) hop 0 _ rfl
      have p1 := cells_block (cs := [.string ⟨#[]⟩, .int .i64 0, .nilFunc, .nilFunc]) hop 1 _ rfl
      have p2 := cells_block (cs := [.string ⟨#[]⟩, .int .i64 0, .nilFunc, .nilFunc]) hop 2 _ rfl
      have p3 := cells_block (cs := [.string ⟨#[]⟩, .int .i64 0, .nilFunc, .nilFunc]) hop 3 _ rfl
      have q0 := block_frozen (i := 0) hop
      have q1 := block_frozen (i := 1) hop
      have q2 := block_frozen (i := 2) hop
      have q3 := block_frozen (i := 3) hop
      haveI := Lays.of_cell p0
      clear hop
      go_wp2_with fail
      go_meet
      have hz2 := World.size_ext_le _ X2
      simp at hz2 hpp
      have hEx := (show (w.alloc (.cells #[.int .u8 1, .slice q ps.length cap] 36)).Exts (World.ext (World.ext _ X2) X5) from exq)
      have hbp : (w.alloc (.cells #[.int .u8 1, .slice q ps.length cap] 36)).heap.size ≤ pp := by simp; omega
      refine ⟨pp, 59, 60, 2, .string ⟨#[114, 105, 100, 101]⟩, rfl, Lib.hid kind1, by omega, (((hEx.setCell hbp _).setCell hbp _).setCell hbp _).setCell hbp _, inferInstance, ?_, ?_, ?_⟩
      · simp [go_sem, p1, p2, p3]
      · simp [go_sem, p1, p2, p3]
      · simp [go_sem, p1, p2, p3]
    ·
      refine wp_region_alloc 5 4 _ (.cells #[.string ⟨#[]⟩, .int .i64 0, .nilFunc, .nilFunc] 81) (by kernel_rfl) (fun pp => by kernel_rfl) (by kernel_rfl) rfl rfl rfl (by decide) (fun a W => by kernel_rfl) ?_
      apply Exists.intro
      refine ⟨fun pp hpp T hT L hL => ?_, fun pp => ?_, fun pp Wp hpp hEp hop => ?_⟩
      · haveI := hT.2
        simp only [mvOp, List.set_cons_succ, List.set_cons_zero, List.take_succ_cons, List.take_zero]
        repeat (go_big_quiet_step ((go_at_call 29; exact Calls.in_extT_eq hT (sheet_kinds_any _) rfl)))
        exact wpQuiet_nil hL
      · rfl
      simp only [List.drop_succ_cons, List.drop_zero]
      obtain ⟨X5, rfl⟩ := hEp
      have p0 := cells_block (cs := [.string ⟨#[]⟩, .int .i64 0, .nilFunc, .nilFunc]) hop 0 _ rfl
      have p1 := cells_block (cs := [.string ⟨#[]⟩, .int .i64 0, .nilFunc, .nilFunc]) hop 1 _ rfl
      have p2 := cells_block (cs := [.string ⟨#[]⟩, .int .i64 0, .nilFunc, .nilFunc]) hop 2 _ rfl
      have p3 := cells_block (cs := [.string ⟨#[]⟩, .int .i64 0, .nilFunc, .nilFunc]) hop 3 _ rfl
      have q0 := block_frozen (i := 0) hop
      have q1 := block_frozen (i := 1) hop
      have q2 := block_frozen (i := 2) hop
      have q3 := block_frozen (i := 3) hop
      haveI := Lays.of_cell p0
      clear hop
      go_wp2_with fail
      go_meet
      have hz2 := World.size_ext_le _ X2
      simp at hz2 hpp
      have hEx := (show (w.alloc (.cells #[.int .u8 2, .slice q ps.length cap] 36)).Exts (World.ext (World.ext _ X2) X5) from exq)
      have hbp : (w.alloc (.cells #[.int .u8 2, .slice q ps.length cap] 36)).heap.size ≤ pp := by simp; omega
      refine ⟨pp, 62, 63, 2, .string ⟨#[115, 116, 97, 114, 116]⟩, rfl, Lib.hid kind2, by omega, (((hEx.setCell hbp _).setCell hbp _).setCell hbp _).setCell hbp _, inferInstance, ?_, ?_, ?_⟩
      · simp [go_sem, p1, p2, p3]
      · simp [go_sem, p1, p2, p3]
      · simp [go_sem, p1, p2, p3]
    ·
      refine wp_region_alloc 5 4 _ (.cells #[.string ⟨#[]⟩, .int .i64 0, .nilFunc, .nilFunc] 81) (by kernel_rfl) (fun pp => by kernel_rfl) (by kernel_rfl) rfl rfl rfl (by decide) (fun a W => by kernel_rfl) ?_
      apply Exists.intro
      refine ⟨fun pp hpp T hT L hL => ?_, fun pp => ?_, fun pp Wp hpp hEp hop => ?_⟩
      · haveI := hT.2
        simp only [mvOp, List.set_cons_succ, List.set_cons_zero, List.take_succ_cons, List.take_zero]
        repeat (go_big_quiet_step ((go_at_call 29; exact Calls.in_extT_eq hT (sheet_kinds_any _) rfl)))
        exact wpQuiet_nil hL
      · rfl
      simp only [List.drop_succ_cons, List.drop_zero]
      obtain ⟨X5, rfl⟩ := hEp
      have p0 := cells_block (cs := [.string ⟨#[]⟩, .int .i64 0, .nilFunc, .nilFunc]) hop 0 _ rfl
      have p1 := cells_block (cs := [.string ⟨#[]⟩, .int .i64 0, .nilFunc, .nilFunc]) hop 1 _ rfl
      have p2 := cells_block (cs := [.string ⟨#[]⟩, .int .i64 0, .nilFunc, .nilFunc]) hop 2 _ rfl
      have p3 := cells_block (cs := [.string ⟨#[]⟩, .int .i64 0, .nilFunc, .nilFunc]) hop 3 _ rfl
      have q0 := block_frozen (i := 0) hop
      have q1 := block_frozen (i := 1) hop
      have q2 := block_frozen (i := 2) hop
      have q3 := block_frozen (i := 3) hop
      haveI := Lays.of_cell p0
      clear hop
      go_wp2_with fail
      go_meet
      have hz2 := World.size_ext_le _ X2
      simp at hz2 hpp
      have hEx := (show (w.alloc (.cells #[.int .u8 3, .slice q ps.length cap] 36)).Exts (World.ext (World.ext _ X2) X5) from exq)
      have hbp : (w.alloc (.cells #[.int .u8 3, .slice q ps.length cap] 36)).heap.size ≤ pp := by simp; omega
      refine ⟨pp, 64, 65, 5, .string ⟨#[105, 99, 101]⟩, rfl, Lib.hid (kind3 HICE.out), by omega, (((hEx.setCell hbp _).setCell hbp _).setCell hbp _).setCell hbp _, inferInstance, ?_, ?_, ?_⟩
      · simp [go_sem, p1, p2, p3]
      · simp [go_sem, p1, p2, p3]
      · simp [go_sem, p1, p2, p3]
    ·
      refine wp_region_alloc 5 4 _ (.cells #[.string ⟨#[]⟩, .int .i64 0, .nilFunc, .nilFunc] 81) (by kernel_rfl) (fun pp => by kernel_rfl) (by kernel_rfl) rfl rfl rfl (by decide) (fun a W => by kernel_rfl) ?_
      apply Exists.intro
      refine ⟨fun pp hpp T hT L hL => ?_, fun pp => ?_, fun pp Wp hpp hEp hop => ?_⟩
      · haveI := hT.2
        simp only [mvOp, List.set_cons_succ, List.set_cons_zero, List.take_succ_cons, List.take_zero]
        repeat (go_big_quiet_step ((go_at_call 29; exact Calls.in_extT_eq hT (sheet_kinds_any _) rfl)))
        exact wpQuiet_nil hL
      · rfl
      simp only [List.drop_succ_cons, List.drop_zero]
      obtain ⟨X5, rfl⟩ := hEp
      have p0 := cells_block (cs := [.string ⟨#[]⟩, .int .i64 0, .nilFunc, .nilFunc]) hop 0 _ rfl
      have p1 := cells_block (cs := [.string ⟨#[]⟩, .int .i64 0, .nilFunc, .nilFunc]) hop 1 _ rfl
      have p2 := cells_block (cs := [.string ⟨#[]⟩, .int .i64 0, .nilFunc, .nilFunc]) hop 2 _ rfl
      have p3 := cells_block (cs := [.string ⟨#[]⟩, .int .i64 0, .nilFunc, .nilFunc]) hop 3 _ rfl
      have q0 := block_frozen (i := 0) hop
      have q1 := block_frozen (i := 1) hop
      have q2 := block_frozen (i := 2) hop
      have q3 := block_frozen (i := 3) hop
      haveI := Lays.of_cell p0
      clear hop
      go_wp2_with fail
      go_meet
      have hz2 := World.size_ext_le _ X2
      simp at hz2 hpp
      have hEx := (show (w.alloc (.cells #[.int .u8 4, .slice q ps.length cap] 36)).Exts (World.ext (World.ext _ X2) X5) from exq)
      have hbp : (w.alloc (.cells #[.int .u8 4, .slice q ps.length cap] 36)).heap.size ≤ pp := by simp; omega
      refine ⟨pp, 66, 67, 2, .string ⟨#[106, 117, 100, 103, 101]⟩, rfl, Lib.hid kind4, by omega, (((hEx.setCell hbp _).setCell hbp _).setCell hbp _).setCell hbp _, inferInstance, ?_, ?_, ?_⟩
      · simp [go_sem, p1, p2, p3]
      · simp [go_sem, p1, p2, p3]
      · simp [go_sem, p1, p2, p3]
  case rest =>
  obtain ⟨pp, g1, g2, cols, wd, rfl, HKF, hpp, hEx, lpp, f1, f2, f3⟩ := hcut
  obtain ⟨X3, rfl⟩ := hEx
  have hg1 := HKF.out.e1
  have hg2 := HKF.out.e2
  have hrowsC := HKF.out.rows ps.length
  obtain ⟨mb, hmb⟩ : ∃ m, manyOk kd ps.length = m := ⟨_, rfl⟩
  rw [hmb] at hrowsC
  have hmany2 := HMANY.out
  have hend2 := HEND.out
  rw [hmb] at hmany2 hend2
  have HROWSC := Lib.hid hrowsC
  clear hrowsC
  have HMB := Lib.hid hmb
  clear hmb
  have HEND2 := Lib.hid hend2
  clear hend2
  cases mb
  · have hv := hmany2 rfl
    have HV := Lib.hid hv
    clear hv
    clear hmany2
    go_wp2_with (go_at_fn g1; refine (HROWSC.out _).mono ?_; rintro e w' ⟨rfl, X4, rfl⟩)
    go_ret
    exact ⟨by rw [HV.out]; rfl, exq⟩
  clear hmany2
  go_wp2_with (go_at_fn g1; refine (HROWSC.out _).mono ?_; rintro e w' ⟨rfl, X4, rfl⟩)
  have hlast0 : LastAt (((w.alloc (.cells #[.int .u8 kd, .slice q ps.length cap] 36)).ext X3).ext X4) cols 0 (.slice none 0 0) [] := .inl ⟨rfl, rfl⟩
  obtain ⟨S, hS⟩ : ∃ S, rowsOk kd 0 [] (ps.map Prod.fst) = S := ⟨_, rfl⟩
  have hrows2 := HROWS.out
  rw [hS] at hrows2
  have hend3 := HEND2.out trivial
  rw [hS] at hend3
  have hS0 : rowsOk kd 0 [] ((ps.map Prod.fst).drop 0) = S := hS
  have hsall := fun (h : S = true) => hS.trans h
  have HSL := Lib.hid hsall
  clear hsall
  have HLAST0 := Lib.hid hlast0
  clear hlast0
  have HS0 := Lib.hid hS0
  clear hS0
  have HROWS2 := Lib.hid hrows2
  clear hrows2
  have HEND3 := Lib.hid hend3
  clear hend3
  clear hS
  go_loopw [4, 5, 6, 27] (fun vl _ _ i wr => ∃ (k : Nat) (last : List Int), k ≤ ps.length ∧ i = .int .i64 k ∧ Hid (rowsOk kd k last ((ps.map Prod.fst).drop k) = S) ∧ Hid (0 < k → last = (ps.map Prod.fst).getD (k - 1) []) ∧ (World.ext _ X3).Exts wr ∧ Hid (LastAt wr cols k vl last)) (fun _ _ _ i _ => ps.length - (intOf i).toNat)
  case atStart => exact ⟨0, [], Nat.zero_le _, rfl, HS0, Lib.hid (fun h => absurd h (Nat.lt_irrefl 0)), exq, HLAST0⟩
  case round =>
    clear HLAST0 HS0
    obtain ⟨k, last, hk, rfl, HRK, HGD, hE, HLA⟩ := hrel
    obtain ⟨X5, rfl⟩ := hE
    rcases Nat.lt_or_ge k ps.length with hlt | hge
    · obtain ⟨b, o, rfl, x, p, cx, hx, d, hxr⟩ := HROW.out k hlt
      have lb := Lays.of_cell d
      have w1 : (k : Int) < (ps.length : Int) := by omega
      have hst := HSTEP.out k x last hx
      obtain ⟨nx, hnx⟩ : ∃ m, x.length = m := ⟨_, rfl⟩
      rw [hnx] at d hxr hst
      have hrk := HRK.out
      rw [hst] at hrk
      have hcol := HKF.out.c
      rw [← hcol] at hrk
      have hgx : x = (ps.map Prod.fst).getD (k + 1 - 1) [] := by rw [Nat.add_sub_cancel, List.getD_eq_getElem?_getD, hx]; rfl
      have HGX := Lib.hid hgx
      clear hgx
      have HNX := Lib.hid hnx
      clear hnx
      have HXR := Lib.hid hxr
      clear hxr
      clear hx hst HRK hcol
      by_cases hne : nx = cols
      rotate_left
      · have hv := HROWS2.out (by rw [← hrk, decide_eq_false hne]; rfl)
        have hne2 : ((nx : Int) != (cols : Int)) = true := by rw [bne_iff_ne]; omega
        have HV := Lib.hid hv
        clear hv
        clear hne hrk
        go_wp2_with fail
        go_ret
        exact ⟨by rw [HV.out]; rfl, exq⟩
      rw [decide_eq_true hne, Bool.true_and] at hrk
      subst hne
      have hpos : 0 < nx := by
        have h1 := HKF.out.c
        unfold colsOf at h1
        split at h1 <;> omega
      obtain ⟨p', bx, ox, cx', hpe, hmx, hpx, _⟩ := HXR.out.ex
      injection hpe with he1 he2 he3
      obtain ⟨he4, _⟩ := hpx (by rw [HNX.out]; exact hpos)
      rw [← he1] at he4
      subst he4
      clear he1 he2 he3 hmx hpx hpos
      have hcall := fun (W : World) (hE : (((w.alloc (.cells #[.int .u8 kd, .slice (some ⟨b, o, none⟩) ps.length cap] 36)).ext X3).ext X5).Exts W) => HKF.out.row k x last bx ox cx _ W (HXR.out.mono (World.Exts.trans (World.Exts.trans (World.Exts.trans ((World.Exts.refl w).alloc _) ⟨X3, rfl⟩) ⟨X5, rfl⟩) hE)) HNX.out (HLA.out.mono hE) (by omega)
      have hne2 : ((nx : Int) != (nx : Int)) = false := by simp
      have hsp := fun (h : shRow kd k x last = true) => shRow_pos HKD.out h
      obtain ⟨z, hz⟩ : ∃ z, shRow kd k x last = z := ⟨_, rfl⟩
      rw [hz] at hrk hcall hsp
      have HCALL := Lib.hid hcall
      clear hcall
      clear hz
      cases z
      · have hv := HROWS2.out (by rw [← hrk]; rfl)
        have HV := Lib.hid hv
        clear hv
        clear hrk
        go_wp2_with (go_at_fn g2; refine (HCALL.out _ exq).mono ?_; rintro e w' ⟨rfl, X6, rfl⟩)
        go_ret
        exact ⟨by rw [HV.out]; rfl, exq⟩
      · rw [Bool.true_and] at hrk
        have hsp2 := hsp rfl
        have HRK2 := Lib.hid hrk
        clear hrk
        have HSP := Lib.hid hsp2
        clear hsp2
        clear hsp
        go_wp2_with (go_at_fn g2; refine (HCALL.out _ exq).mono ?_; rintro e w' ⟨rfl, X6, rfl⟩)
        go_roundw
        case rel => exact ⟨k + 1, x, by omega, by go_num, HRK2, Lib.hid (fun _ => HGX.out), exq, Lib.hid (.inr ⟨by omega, bx, ox, cx, rfl, HXR.out.mono exq, HNX.out, HSP.out⟩)⟩
        case measure => simp [intOf]; omega
    · have hkn : k = ps.length := by omega
      have w1 : ¬ (k : Int) < (ps.length : Int) := by omega
      have hgood : S = true := by rw [← HRK.out]; exact rowsOk_end (by rw [HPL.out]; omega)
      have hv := HEND3.out hgood
      have hsl := HSL.out hgood
      have HSALL := Lib.hid hsl
      clear hsl
      clear HSL
      subst hgood
      clear HROWS2 HEND3 HRK
      rcases HKD.out with rfl | rfl | rfl | rfl
      · have hv2 : R = 0 := hv
        have HV := Lib.hid hv2
        clear hv2
        clear hv hkn
        go_wp2_with fail
        refine wp_region_ext (by kernel_rfl) (by kernel_rfl) ?_
        repeat (go_big_quiet_step (fail))
        refine wpQuiet_nil ?_
        rintro _ ⟨X, rfl⟩
        go_wp2_with fail
        go_ret
        exact ⟨by rw [HV.out]; rfl, exq⟩
      · have hap := fun (W : World) (hE : w.Exts W) => sheet_apart_any ps _ W (HL.out.mono hE) (fun x hx => (show x.1.length = colsOf 2 from rowsOk_len HSALL.out x.1 (List.mem_map_of_mem hx))) (by omega) (fun x hx => rowsOk_start HSALL.out x.1 (List.mem_map_of_mem hx))
        obtain ⟨D, hD⟩ : ∃ d, decide (secs (ps.map Prod.fst)).Nodup = d := ⟨_, rfl⟩
        have hv2 : R = if D then 0 else 110 := by rw [hv, ← hD]; rfl
        rw [hD] at hap
        have HAP := Lib.hid hap
        clear hap
        have HV := Lib.hid hv2
        clear hv2
        clear hv hkn hD
        cases D
        all_goals
          go_wp2_with fail
          refine wp_region_ext (by kernel_rfl) (by kernel_rfl) ?_
          repeat (go_big_quiet_step ((go_at_call 57; exact Calls.in_ext (HAP.out _ exq))))
          refine wpQuiet_nil ?_
          rintro _ ⟨X, rfl⟩
          go_wp2_with fail
          go_ret
          exact ⟨by rw [HV.out]; rfl, exq⟩
      · have hv2 : R = 0 := hv
        have HV := Lib.hid hv2
        clear hv2
        clear hv hkn
        go_wp2_with fail
        refine wp_region_ext (by kernel_rfl) (by kernel_rfl) ?_
        repeat (go_big_quiet_step (fail))
        refine wpQuiet_nil ?_
        rintro _ ⟨X, rfl⟩
        go_wp2_with fail
        go_ret
        exact ⟨by rw [HV.out]; rfl, exq⟩
      · have hn6 : ps.length = 6 := by
          have h1 := HMB.out
          unfold manyOk at h1
          rw [if_neg (by decide), if_neg (by decide), if_neg (by decide), decide_eq_true_eq] at h1
          exact h1
        have hla := HLA.out
        have hgd := HGD.out (by omega)
        rw [show k - 1 = 5 by omega] at hgd
        obtain ⟨hz, _⟩ | ⟨_, b, o, c, rfl, hlr, hll, _⟩ := hla
        · omega
        have hcol : cols = 2 := HKF.out.c
        subst hcol
        rw [← hll] at hlr
        have c1 := row_nth hlr 1 (by omega)
        have lx := Lays.of_cell c1
        have hc2 : 2 ≤ c := by
          obtain ⟨_, _, _, _, e, hm, _⟩ := hlr.ex
          injection e with d1 d2 d3
          omega
        have hcap : 5 ≤ cap := by
          obtain ⟨_, _, _, _, e, hm, _⟩ := HL.out.row.ex
          injection e with d1 d2 d3
          omega
        have hl5 := fun (W : World) (hE : w.Exts W) => sheet_least_any (ps.take 5) _ W (lists_take 5 (by omega) (HL.out.mono hE)) (by rw [List.length_take]; omega) (by rw [List.length_take]; omega) (fun x hx => (show x.1.length = colsOf 4 from rowsOk_len HSALL.out x.1 (List.mem_map_of_mem (List.mem_of_mem_take hx))))
        have hl6 : leastL ((ps.take 5).map Prod.fst) = shLeast ((ps.map Prod.fst).take 5) := by
          rw [List.map_take]
          exact leastL_two (by rw [List.length_take, HPL.out]; omega) (fun x hx => rowsOk_judge HSALL.out x (List.mem_of_mem_take hx))
        rw [hl6] at hl5
        obtain ⟨m, hm⟩ : ∃ m, shLeast ((ps.map Prod.fst).take 5) = m := ⟨_, rfl⟩
        obtain ⟨z, hz⟩ : ∃ z, nth last 1 = z := ⟨_, rfl⟩
        have hv2 : R = if decide (z = m) then 0 else 110 := by rw [hv, ← hz, ← hm, hgd]; rfl
        rw [hm] at hl5
        rw [hz] at c1
        have h5i : (5 : Int) ≤ (cap : Int) := by omega
        have HL5 := Lib.hid hl5
        clear hl5
        have HLR := Lib.hid hlr
        clear hlr
        clear hv hkn hm hz hl6 hll hgd hn6
        by_cases hzm : z = m
        · have hv3 : R = 0 := by rw [hv2, decide_eq_true hzm]; rfl
          have hne : (z != m) = false := by rw [hzm]; simp
          have HV := Lib.hid hv3
          clear hv3
          clear hv2 hzm
          go_wp2_with fail
          refine wp_region_ext (by kernel_rfl) (by kernel_rfl) ?_
          repeat (go_big_quiet_step ((go_at_call 58; exact Calls.in_ext (HL5.out _ exq))))
          refine wpQuiet_nil ?_
          rintro _ ⟨X, rfl⟩
          go_wp2_with fail
          go_ret
          exact ⟨by rw [HV.out]; rfl, exq⟩
        · have hv3 : R = 110 := by rw [hv2, decide_eq_false hzm]; rfl
          have hne : (z != m) = true := by rw [bne_iff_ne]; exact hzm
          have HV := Lib.hid hv3
          clear hv3
          clear hv2 hzm
          go_wp2_with fail
          refine wp_region_ext (by kernel_rfl) (by kernel_rfl) ?_
          repeat (go_big_quiet_step ((go_at_call 58; exact Calls.in_ext (HL5.out _ exq))))
          refine wpQuiet_nil ?_
          rintro _ ⟨X, rfl⟩
          go_wp2_with fail
          go_ret
          exact ⟨by rw [HV.out]; rfl, exq⟩
end Go.Proofs.YtcickafaomfbmaaGreatDoor

/-
  A range over an iterator where a round, or the iterator itself, may panic: what the iterator promises, and the law for the function that ranges (its frame's function is known).
-/
namespace Go
open Go.RowKit
set_option linter.unusedVariables false

section
variable {n : Nat} {P : Program}

/-- What is asked at a round's end; a panic may pass. -/
def roundPostP (P : Program) (l : Nat) (R : Ending → World → Prop) : Exit → Act → World → Prop
  | .panic ch, a, w => a.defers = [] ∧ R (.panicked ch) w
  | e, a, w => roundPost P l R e a w

theorem roundIn_of_wpP {l : Nat} {f : FuncId} {fn : Func} {tmps : Array Value} {assign body : Code} {w : World} {R : Ending → World → Prop} (hf : P.funcs[f]? = some fn)
    (h : assign.wpIn (Fence.wide.inRound l) n P (Exit.then (fun a₁ w₁ => ∃ w₂, (Instr.beginRound l).run P w₁ = .ok () w₂ ∧ body.wpIn (Fence.wide.inRound l) n P (roundPostP P l R) a₁ w₂) (fun _ _ _ => False))
      { tmps := tmps, defers := [] } w) :
    RoundIn Fence.wide n P l f tmps assign body w R := by
  refine ⟨trivial, fun c cs hr => ?_⟩
  have fw : ∀ m : Machine, m.fenced P (Fence.wide.inRound l) := fun m => fenced_wide P m
  let b : Frame := { (default : Frame) with fn := f, kind := .normal, roundOf := some l }
  have hb0 : Frame.round l f tmps assign body .normal = b.atR { tmps := tmps, defers := [] } [.code assign, .beginRound, .code body] := by
    simp [Frame.round, Frame.atR, b]
  have hr' : (Fence.wide.inRound l).room ((c :: cs).length + 1 + n) := hr
  obtain ⟨e, a₁, w₁, hq, harr⟩ := h b [.beginRound, .code body] (c :: cs) rfl trivial hr'
  rw [← hb0] at harr
  cases e with
  | normal =>
    obtain ⟨w₂, hbr, hbody⟩ := hq
    have s1 := StepsIn.trans harr (StepsIn.one (fw _) (stepR_beginRound (P := P) (b := b) (a := a₁) (k := [.code body]) (cs := c :: cs) rfl hbr))
    obtain ⟨e₂, a₂, w₃, hq₂, harr₂⟩ := hbody b [] (c :: cs) rfl trivial hr'
    cases e₂ with
    | normal =>
      obtain ⟨v, w₄, hend, hR⟩ := hq₂
      exact ⟨.returned v, w₄, hR, s1.trans (StepsIn.trans harr₂ (.one (fw _) (stepR_round_end rfl rfl hend)))⟩
    | ret =>
      obtain ⟨v, w₄, hend, hR⟩ := hq₂
      obtain ⟨k₁, hs⟩ := harr₂.2 rfl
      exact ⟨.returned v, w₄, hR, s1.trans (StepsIn.trans hs (.one (fw _) (stepR_round_ret rfl rfl hend)))⟩
    | exit id =>
      obtain ⟨v, w₄, hend, hR⟩ := hq₂
      obtain ⟨k₁, hk, hs⟩ := harr₂.2 rfl rfl
      exact ⟨.returned v, w₄, hR, s1.trans (StepsIn.trans hs (.one (fw _) (stepR_round_exit rfl rfl hk hend)))⟩
    | goto t =>
      obtain ⟨v, w₄, hend, hR⟩ := hq₂
      obtain ⟨k₁, hk, hs⟩ := harr₂.2 rfl rfl
      exact ⟨.returned v, w₄, hR, s1.trans (StepsIn.trans hs (.one (fw _) (stepR_round_goto rfl rfl hk hend)))⟩
    | panic chain =>
      obtain ⟨hd, hR⟩ := hq₂
      obtain ⟨todo, hs⟩ := harr₂
      exact ⟨.panicked chain, w₃, hR, s1.trans (StepsIn.trans hs (.one (fw _) (step_leave_panicked ⟨rfl, hd, fn, hf⟩)))⟩
    | outgrown => exact hq₂.elim
  | exit id => exact hq.elim
  | goto t => exact hq.elim
  | ret => exact hq.elim
  | panic chain => exact hq.elim
  | outgrown => exact hq.elim

/-- A statement in a frame of function f. -/
def Code.wpF (n : Nat) (P : Program) (f : FuncId) (c : Code) (Q : Exit → Act → World → Prop) (a : Act) (w : World) : Prop :=
  ∀ (b : Frame) (k : List Item) (cs : List Frame), b.roundOf = none → b.fn = f → ∃ e a' w', Q e a' w' ∧ ArrivesIn (Machine.fenced P Fence.wide) P (lone (b.atR a (.code c :: k)) cs w) b k cs e a' w'

theorem wpF_of_wpIn {f : FuncId} {c : Code} {Q : Exit → Act → World → Prop} {a : Act} {w : World} (h : c.wpIn Fence.wide n P Q a w) : c.wpF n P f Q a w :=
  fun b k cs hro _ => h b k cs hro trivial (room_wide _)
theorem wpF_of_wp {f : FuncId} {c : Code} {Q : Exit → Act → World → Prop} {a : Act} {w : World} (h : c.wp P Q a w) : c.wpF n P f Q a w := wpF_of_wpIn (wpIn_wide.2 h)

theorem wpF_seq {f : FuncId} {x y : Code} {Q : Exit → Act → World → Prop} {a : Act} {w : World} (h : x.wpF n P f (Exit.then (y.wpF n P f Q) Q) a w) : (Code.seq x y).wpF n P f Q a w := by
  intro b k cs hro hb
  have fw : ∀ m : Machine, m.fenced P Fence.wide := fun m => fenced_wide P m
  obtain ⟨e, a₁, w₁, hq, harr⟩ := h b (.code y :: k) cs hro hb
  cases e with
  | normal =>
    obtain ⟨e₂, a₂, w₂, hq₂, harr₂⟩ := hq b k cs hro hb
    exact ⟨e₂, a₂, w₂, hq₂, .of_steps (.head (fw _) stepR_seq harr) harr₂⟩
  | exit id => exact ⟨_, a₁, w₁, hq, .of_steps (.one (fw _) stepR_seq) (.pass (x := .code y) rfl (fun _ _ => .inl (by simp)) harr)⟩
  | goto l => exact ⟨_, a₁, w₁, hq, .of_steps (.one (fw _) stepR_seq) (.pass (x := .code y) rfl (fun _ _ => .inl (by simp)) harr)⟩
  | ret => exact ⟨_, a₁, w₁, hq, .of_steps (.one (fw _) stepR_seq) (.pass (x := .code y) rfl (fun _ _ => .inl (by simp)) harr)⟩
  | panic ch => exact ⟨_, a₁, w₁, hq, .of_steps (.one (fw _) stepR_seq) (.pass (x := .code y) rfl (fun _ _ => .inl (by simp)) harr)⟩
  | outgrown => exact ⟨_, a₁, w₁, hq, .of_steps (.one (fw _) stepR_seq) (.pass (x := .code y) rfl (fun _ _ => .inl (by simp)) harr)⟩

/-- The statement, in a frame of function fn. -/
theorem wpF_rangeFunc {fn : FuncId} {g : Operand} {ps : Array Tmp} {assign body : Code} {Q : Exit → Act → World → Prop} {a : Act} {w : World}
    (h : ∃ (l : Nat) (mark : List Deferred) (w₁ : World) (d : Deferred) (w₁' : World) (f : FuncId) (args : Array Value) (w₂ : World),
      (Instr.enterLoop fn a.tmps ps assign body none).run P w = .ok (l, mark) w₁ ∧
      (resolve a.eval (rangeCall g l) 0).run P w₁ = .ok d w₁' ∧
      (invoke d.target d.args).run P w₁' = .ok (.enter f args) w₂ ∧
      CallsIn Fence.wide (n - 1) P f args w₂ (rangePost Fence.wide n P l Q { a with defers := mark ++ a.defers })) :
    (Code.rangeFunc g ps assign body).wpF n P fn Q a w := by
  intro b k cs hro hb
  have fw : ∀ m : Machine, m.fenced P Fence.wide := fun m => fenced_wide P m
  obtain ⟨l, mark, w₁, d, w₁', f, args, w₂, he, hres, hinv, hF, hcall⟩ := h
  rw [← hb, ← hro] at he
  have henter := stepR_rangeFunc (P := P) (b := b) (a := a) (k := k) (cs := cs) (w := w) he hres hinv
  obtain ⟨e, w₃, fr, hR, hsteps, hfn, hleave⟩ := hcall (b.atR { a with defers := mark ++ a.defers } (.inRangeFunc l :: k) :: cs) (room_wide _)
  cases e with
  | outgrown =>
    obtain ⟨a₀, w₀, hq⟩ := hR
    exact ⟨.outgrown, a₀, w₀, hq, .inr (Outgrown.of_steps (.one henter) hsteps)⟩
  | returned v =>
    obtain ⟨jump, w₄, hend, hj⟩ := hR
    have sback : StepsIn (Machine.fenced P Fence.wide) P (lone (b.atR a (.code (.rangeFunc g ps assign body) :: k)) cs w) (lone (b.atR { a with defers := mark ++ a.defers } ((jump.map Item.code).toList ++ k)) cs w₄) := by
      refine .head (fw _) henter (StepsIn.trans hsteps (.head (fw _) ?_ (.one (fw _) (stepR_endRangeFunc hend))))
      rw [← finish_atR_inRangeFunc l v]; exact step_leave_returned hleave
    cases jump with
    | none => exact ⟨.normal, _, w₄, hj, sback⟩
    | some c =>
      obtain ⟨e', a'', w₅, hq, harr⟩ := hj b k cs hro trivial (room_wide _)
      exact ⟨e', a'', w₅, hq, .of_steps sback harr⟩
  | panicked chain =>
    refine ⟨.panic chain, _, w₃, hR, .inRangeFunc l :: k, .head (fw _) henter (StepsIn.trans hsteps (.one (fw _) ?_))⟩
    rw [← Frame.raise_atR]; exact step_leave_panicked hleave

/-- A function's contract out of its body, marks and deferred calls and all. -/
theorem calls_of_wpF {f : FuncId} {fn : Func} {c : Code} {args : Array Value} {w : World} {R : Ending → World → Prop}
    (hf : P.funcs[f]? = some fn) (hb : fn.body = some c)
    (h : c.wpF n P f (bodyPostM Fence.wide n P fn R) { tmps := args ++ Array.replicate (fn.ntmps - args.size) undef, defers := [] } w) : Calls P f args w R := by
  refine callsIn_wide.1 (show CallsIn Fence.wide n P f args w R from ⟨trivial, fun cs hr => ?_⟩)
  have fw : ∀ m : Machine, m.fenced P Fence.wide := fun m => fenced_wide P m
  let b : Frame := { (default : Frame) with fn := f, kind := .normal, roundOf := none }
  have henter : Frame.enter P f args .normal =
      b.atR { tmps := args ++ Array.replicate (fn.ntmps - args.size) undef, defers := [] } [.code c] := by
    simp [Frame.enter, Frame.atR, hf, hb, b]
  obtain ⟨e, a', w', hq, harr⟩ := h b [] cs rfl rfl
  rw [← henter] at harr
  cases e with
  | normal =>
    obtain ⟨e', w'', fr', hR, hs, hfn, hl⟩ := leaves_stepsInM (F := Fence.wide) a'.defers .returning w' { b.atR a' [] with mode := .returning } cs rfl rfl rfl hf rfl trivial hr hq
    exact ⟨e', w'', fr', hR, ComesIn.of_steps (StepsIn.trans harr (.one (fw _) (stepR_end rfl))) hs, hfn, hl⟩
  | ret =>
    obtain ⟨todo, hs₀⟩ := harr.1 rfl
    obtain ⟨e', w'', fr', hR, hs, hfn, hl⟩ := leaves_stepsInM (F := Fence.wide) a'.defers .returning w' { b.atR a' todo with mode := .returning } cs rfl rfl rfl hf rfl trivial hr hq
    exact ⟨e', w'', fr', hR, ComesIn.of_steps hs₀ hs, hfn, hl⟩
  | panic chain =>
    obtain ⟨todo, hs₀⟩ := harr
    obtain ⟨e', w'', fr', hR, hs, hfn, hl⟩ := leaves_stepsInM (F := Fence.wide) a'.defers (.panicking chain) w' { b.atR a' todo with mode := .panicking chain } cs rfl rfl rfl hf rfl trivial hr hq
    exact ⟨e', w'', fr', hR, ComesIn.of_steps hs₀ hs, hfn, hl⟩
  | exit id => exact hq.elim
  | goto l => exact hq.elim
  | outgrown => exact ⟨.outgrown, w', b, hq, harr.resolve_left (by simp [b]), rfl, trivial⟩

/-- The iterator's promise: the elements xs in this order, and at their end a panic (fin) or none; between rounds it stores into block bT alone. A round may say 'no more', or panic. -/
def SeqPan {α : Type} (bT : Nat) (T : TypeId) (n : Nat) (P : Program) (g : Nat) (lb : Array Value) (encs : α → Array Value) (xs : List α) (fin : Option Value) (w0 : World) (v0 : Value) : Prop :=
  ∀ (l : Nat) (J Jx : Nat → World → Prop) (Jp : List PanicEntry → World → Prop) (W : World), LaysAs W bT (.cells #[v0] T (0, 0)) →
    (∀ k W1, J k W1 → w0.Exts W1) →
    (∀ k W1 W2 row, J k W1 → W1.grownBy W2 row → (∀ r, row = some r → r = bT) → J k W2) →
    (∀ k x W1, xs[k]? = some x → J k W1 → YieldAt Fence.wide (n - 1) P l (encs x) W1 fun e W2 => (e = .returned (.bool true) ∧ J (k + 1) W2 ∧ ∀ v, LaysAs W1 bT (.cells #[v] T (0, 0)) → LaysAs W2 bT (.cells #[v] T (0, 0))) ∨ (e = .returned (.bool false) ∧ Jx k W2) ∨ (∃ ch, e = .panicked ch ∧ Jp ch W2)) →
    J 0 W →
    CallsIn Fence.wide n P g (#[.func (.yield l) #[] #[]] ++ lb) W fun e W2 =>
      (fin = none ∧ (∃ v, e = .returned v) ∧ J xs.length W2) ∨ ((∃ v, e = .returned v) ∧ ∃ k, Jx k W2) ∨ (∃ ch, e = .panicked ch ∧ Jp ch W2) ∨ (∃ v, fin = some v ∧ e = .panicked [{ v := v, recovered := false }] ∧ J xs.length W2)

/-- How the body of a round may be left. -/
def panPost (B bT : Nat) (T : TypeId) (I : Nat → World → Prop) (Ix : Code → Nat → World → Prop) (Ip : List PanicEntry → World → Prop) (k : Nat) (W : World) : Exit → Act → World → Prop
  | .normal, _, W' => KeepsFrom B W W' ∧ (∀ v, LaysAs W bT (.cells #[v] T (0, 0)) → LaysAs W' bT (.cells #[v] T (0, 0))) ∧ I (k + 1) W'
  | .ret, _, W' => KeepsFrom B W W' ∧ Ix .ret k W'
  | .exit id, _, W' => KeepsFrom B W W' ∧ Ix (.exit id) k W'
  | .goto t, _, W' => KeepsFrom B W W' ∧ Ix (.goto t) k W'
  | .panic ch, a, W' => a.defers = [] ∧ KeepsFrom B W W' ∧ Ip ch W'
  | .outgrown, _, _ => False

theorem laysAs_putObj {W : World} {b l : Nat} {o o' : Obj} {v : Value} {T : TypeId} (h : LaysAs W b (.cells #[v] T (0, 0))) (hl : W.heap[l]? = some o) (ho : o.isCells = false) : LaysAs (W.putObj l o') b (.cells #[v] T (0, 0)) :=
  (World.putObj_heap_other (fun e => by subst e; rw [show W.heap[b]? = _ from h] at hl; cases hl; cases ho)).trans h

theorem wpF_range_pan {α : Type} {bT : Nat} {T : TypeId} {f : FuncId} {fnr : Func} {g : Operand} {ps : Array Tmp} {assign body : Code} {Q : Exit → Act → World → Prop} {a : Act} {w w0 : World} {v0 : Value}
    (hf : P.funcs[f]? = some fnr) {gf : Nat} {lb : Array Value} (hg : a.eval g = .func (.func gf) #[] lb) (eg : ∀ args w, (callFunc gf args).run P w = .ok (.enter gf args) w)
    {encs : α → Array Value} {xs : List α} {fin : Option Value} (hseq : SeqPan bT T (n - 1) P gf lb encs xs fin w0 v0) (hps : ∀ x, (encs x).size = ps.size) (hbox : LaysAs w bT (.cells #[v0] T (0, 0)))
    (I : Nat → World → Prop) (Ix : Code → Nat → World → Prop) (Ip : List PanicEntry → World → Prop) (hIe : ∀ k W, I k W → w0.Exts W)
    (hI : ∀ k W W' row, I k W → W.grownBy W' row → (∀ r, row = some r → r = bT ∨ (w.heap.size ≤ r ∧ ∃ o : Obj, W.heap[r]? = some o ∧ o.isCells = false)) → I k W')
    (hIx : ∀ c k W (l : Nat) (o o' : Obj), Ix c k W → w.heap.size ≤ l → W.heap[l]? = some o → o.isCells = false → Ix c k (W.putObj l o')) (h0 : I 0 w) (ax : α → Act)
    (hassign : ∀ (l : Nat) (x : α) (W : World) (K : Act → World → Prop), K (ax x) W →
      assign.wpIn (Fence.wide.inRound l) (n - 1 - 1) P (Exit.then K (fun _ _ _ => False)) { tmps := (ps.zip (encs x)).foldl (fun t (p, v) => t.setIfInBounds p v) a.tmps, defers := [] } W)
    (hbody : ∀ (l k : Nat) (x : α) (W : World), w.heap.size ≤ l → xs[k]? = some x → I k W → body.wpIn (Fence.wide.inRound l) (n - 1 - 1) P (panPost w.heap.size bT T I Ix Ip k W) (ax x) W)
    (hdone : ∀ (W : World), fin = none → I xs.length W → W.heap[w.heap.size]? = some (.deferred (some [])) → Q .normal { a with defers := { target := .collected w.heap.size, args := #[] } :: a.defers } W)
    (hstop : ∀ (c : Code) (k : Nat) (W : World), Ix c k W → W.heap[w.heap.size]? = some (.deferred (some [])) → c.wpIn Fence.wide n P Q { a with defers := { target := .collected w.heap.size, args := #[] } :: a.defers } W)
    (hpan : ∀ (ch : List PanicEntry) (W : World), Ip ch W → W.heap[w.heap.size]? = some (.deferred (some [])) → Q (.panic ch) { a with defers := { target := .collected w.heap.size, args := #[] } :: a.defers } W)
    (hfin : ∀ (v : Value) (W : World), fin = some v → I xs.length W → W.heap[w.heap.size]? = some (.deferred (some [])) → Q (.panic [{ v := v, recovered := false }]) { a with defers := { target := .collected w.heap.size, args := #[] } :: a.defers } W) :
    (Code.rangeFunc g ps assign body).wpF n P f Q a w := by
  refine wpF_rangeFunc ?_
  let rec' : LoopState → Option Code → Loop := fun st pe => { state := st, pending := pe, fn := f, tmps := a.tmps, params := ps, assign := assign, body := body, defers := w.heap.size }
  have hD : ((w.alloc (.deferred (some []))).alloc (.loop (rec' .ready none))).heap[w.heap.size]? = some (.deferred (some [])) := (Below.heap_alloc _ _ _ (by simp)).trans (World.alloc_heap_new w _)
  have hR : ((w.alloc (.deferred (some []))).alloc (.loop (rec' .ready none))).heap[w.heap.size + 1]? = some (.loop (rec' .ready none)) := by
    have := World.alloc_heap_new (w.alloc (.deferred (some []))) (.loop (rec' .ready none))
    rwa [World.size_alloc] at this
  have hst : I 0 ((w.alloc (.deferred (some []))).alloc (.loop (rec' .ready none))) := hI _ _ _ none (hI _ _ _ none h0 (World.grownBy_alloc w _ none) (fun r e => by cases e)) (World.grownBy_alloc _ _ none) (fun r e => by cases e)
  have hbx : LaysAs ((w.alloc (.deferred (some []))).alloc (.loop (rec' .ready none))) bT (.cells #[v0] T (0, 0)) := (hbox.exts ((World.Exts.refl w).alloc _ |>.alloc _))
  have hbl : bT < w.heap.size := hbox.lt
  refine ⟨w.heap.size + 1, [{ target := .collected w.heap.size, args := #[] }], (w.alloc (.deferred (some []))).alloc (.loop (rec' .ready none)), { target := .fn (.func gf) lb, args := #[.func (.yield (w.heap.size + 1)) #[] #[]] }, (w.alloc (.deferred (some []))).alloc (.loop (rec' .ready none)), gf, #[.func (.yield (w.heap.size + 1)) #[] #[]] ++ lb, (w.alloc (.deferred (some []))).alloc (.loop (rec' .ready none)),
    ?_, ?_, ?_, ?_⟩
  · exact run_enterLoop_outer _ _ _ _ _
  · simp only [resolve, hg]
    simp [go_sem]
  · simp [invoke, go_sem, eg]
  change CallsIn Fence.wide (n - 1) P gf _ ((w.alloc (.deferred (some []))).alloc (.loop (rec' .ready none))) _
  generalize (w.alloc (.deferred (some []))).alloc (.loop (rec' .ready none)) = W1 at hD hR hbx hst ⊢
  have turn : ∀ (k : Nat) {A B : World} {row : Option Nat} {o : Obj}, A.grownBy B row → (∀ r, row = some r → r = bT) → A.heap[bT]? ≠ some o → A.heap[k]? = some o → B.heap[k]? = some o := fun k A B row o hg' hr hne hk => (hg'.block k (Array.getElem?_eq_some_iff.1 hk).1 (fun e => by have := hr k e.symm; subst this; exact hne hk)).trans hk
  refine (hseq (w.heap.size + 1) (fun k W => I k W ∧ W.heap[w.heap.size + 1]? = some (.loop (rec' .ready none)) ∧ W.heap[w.heap.size]? = some (.deferred (some [])))
    (fun k W => ∃ c, Ix c k W ∧ W.heap[w.heap.size + 1]? = some (.loop (rec' .done (some c))) ∧ W.heap[w.heap.size]? = some (.deferred (some [])))
    (fun ch W => Ip ch W ∧ W.heap[w.heap.size]? = some (.deferred (some []))) W1 hbx (fun k W h => hIe k W h.1)
    (fun k A B row hs hg' hr => ⟨hI k A B row hs.1 hg' (fun r e => .inl (hr r e)), (hg'.block _ (Array.getElem?_eq_some_iff.1 hs.2.1).1 (fun e => by have := hr _ e.symm; omega)).trans hs.2.1, (hg'.block _ (Array.getElem?_eq_some_iff.1 hs.2.2).1 (fun e => by have := hr _ e.symm; omega)).trans hs.2.2⟩) ?round ⟨hst, hR, hD⟩).mono ?behind
  case behind =>
    rintro e W2 (⟨hfn, ⟨v, rfl⟩, hi, hl, hk⟩ | ⟨⟨v, rfl⟩, k, c, hi, hl, hk⟩ | ⟨ch, rfl, hi, hk⟩ | ⟨v, hfn, rfl, hi, hl, hk⟩)
    · exact ⟨none, _, run_endLoop (P := P) hl (by simp [rec']), hdone _ hfn (hI _ _ _ (some (w.heap.size + 1)) hi (grownBy_putObj' W2 _ _) (fun r e => by cases e; exact .inr ⟨by omega, _, hl, rfl⟩)) ((World.putObj_heap_other (by omega)).trans hk)⟩
    · exact ⟨some c, _, run_endLoop (P := P) hl (by simp [rec']), hstop c k _ (hIx c k _ _ _ _ hi (by omega) hl rfl) ((World.putObj_heap_other (by omega)).trans hk)⟩
    · exact hpan ch _ hi hk
    · exact hfin v _ hfn hi hk
  case round =>
    rintro k x W hx ⟨hi, hl, hk⟩
    refine ⟨f, _, assign, body, run_yield (P := P) (args := encs x) hl (hps x), roundIn_of_wpP hf (hassign _ x W _ ?_)⟩
    have hlt : w.heap.size + 1 < W.heap.size := (Array.getElem?_eq_some_iff.1 hl).1
    refine ⟨_, run_beginRound hl (by simp [rec']), ?_⟩
    have hl2 : (W.putObj (w.heap.size + 1) (.loop { rec' .ready none with state := .busy })).heap[w.heap.size + 1]? = some (.loop { rec' .ready none with state := .busy }) := World.putObj_heap_same hlt
    have hk2 : (W.putObj (w.heap.size + 1) (.loop { rec' .ready none with state := .busy })).heap[w.heap.size]? = some (.deferred (some [])) := (World.putObj_heap_other (by omega)).trans hk
    have hi2 : I k (W.putObj (w.heap.size + 1) (.loop { rec' .ready none with state := .busy })) := hI _ _ _ (some (w.heap.size + 1)) hi (grownBy_putObj' W _ _) (fun r e => by cases e; exact .inr ⟨by omega, _, hl, rfl⟩)
    refine wpIn_mono (hbody _ k x _ (by omega) hx hi2) ?_
    have leave : ∀ (c : Code) (W3 : World), KeepsFrom w.heap.size (W.putObj (w.heap.size + 1) (.loop { rec' .ready none with state := .busy })) W3 → Ix c k W3 →
        (Instr.endRound (w.heap.size + 1) (some c)).run P W3 = .ok (.bool false) (W3.putObj (w.heap.size + 1) (.loop (rec' .done (some c)))) ∧ ∃ c', Ix c' k (W3.putObj (w.heap.size + 1) (.loop (rec' .done (some c)))) ∧ (W3.putObj (w.heap.size + 1) (.loop (rec' .done (some c)))).heap[w.heap.size + 1]? = some (.loop (rec' .done (some c'))) ∧ (W3.putObj (w.heap.size + 1) (.loop (rec' .done (some c)))).heap[w.heap.size]? = some (.deferred (some [])) := fun c W3 k3 hxx => by
      have hl3 := k3.same _ _ (by omega) hl2 rfl
      exact ⟨run_endRound (P := P) (some c) hl3, c, hIx c k _ _ _ _ hxx (by omega) hl3 rfl, World.putObj_heap_same (Array.getElem?_eq_some_iff.1 hl3).1, (World.putObj_heap_other (by omega)).trans (k3.same _ _ (Nat.le_refl _) hk2 rfl)⟩
    rintro e a3 W3 hp
    cases e with
    | normal =>
      obtain ⟨k3, kp3, hi3⟩ := hp
      have hl3 := k3.same _ _ (by omega) hl2 rfl
      refine ⟨_, _, run_endRound (P := P) none hl3, .inl ⟨rfl, ⟨hI _ _ _ (some (w.heap.size + 1)) hi3 (grownBy_putObj' W3 _ _) (fun r e => by cases e; exact .inr ⟨by omega, _, hl3, rfl⟩), World.putObj_heap_same (Array.getElem?_eq_some_iff.1 hl3).1, (World.putObj_heap_other (by omega)).trans (k3.same _ _ (Nat.le_refl _) hk2 rfl)⟩, fun v hv => ?_⟩⟩
      exact laysAs_putObj (kp3 v (laysAs_putObj hv hl rfl)) hl3 rfl
    | ret => obtain ⟨h3, h4⟩ := leave .ret W3 hp.1 hp.2; exact ⟨_, _, h3, .inr (.inl ⟨rfl, h4⟩)⟩
    | exit id => obtain ⟨h3, h4⟩ := leave (.exit id) W3 hp.1 hp.2; exact ⟨_, _, h3, .inr (.inl ⟨rfl, h4⟩)⟩
    | goto t => obtain ⟨h3, h4⟩ := leave (.goto t) W3 hp.1 hp.2; exact ⟨_, _, h3, .inr (.inl ⟨rfl, h4⟩)⟩
    | panic ch => exact ⟨hp.1, .inr (.inr ⟨ch, rfl, hp.2.2, hp.2.1.same _ _ (Nat.le_refl _) hk2 rfl⟩)⟩
    | outgrown => exact hp.elim

/-- The same law, for two loop variables in slots. -/
theorem wpF_range_pan2 {α : Type} {bT : Nat} {T : TypeId} {f : FuncId} {fnr : Func} {g : Operand} {p1 p2 : Tmp} {assign body : Code} {Q : Exit → Act → World → Prop} {a : Act} {w w0 : World} {v0 : Value}
    (hf : P.funcs[f]? = some fnr) {gf : Nat} {lb : Array Value} (hg : a.eval g = .func (.func gf) #[] lb) (eg : ∀ args w, (callFunc gf args).run P w = .ok (.enter gf args) w)
    {encs : α → Array Value} {e1 e2 : α → Value} (henc : ∀ x, encs x = #[e1 x, e2 x]) {xs : List α} {fin : Option Value} (hseq : SeqPan bT T (n - 1) P gf lb encs xs fin w0 v0) (hbox : LaysAs w bT (.cells #[v0] T (0, 0)))
    (I : Nat → World → Prop) (Ix : Code → Nat → World → Prop) (Ip : List PanicEntry → World → Prop) (hIe : ∀ k W, I k W → w0.Exts W)
    (hI : ∀ k W W' row, I k W → W.grownBy W' row → (∀ r, row = some r → r = bT ∨ (w.heap.size ≤ r ∧ ∃ o : Obj, W.heap[r]? = some o ∧ o.isCells = false)) → I k W')
    (hIx : ∀ c k W (l : Nat) (o o' : Obj), Ix c k W → w.heap.size ≤ l → W.heap[l]? = some o → o.isCells = false → Ix c k (W.putObj l o')) (h0 : I 0 w) (d1 d2 : Nat)
    (hassign : ∀ (l : Nat) (x : α) (W : World) (K : Act → World → Prop), K (Act.put (Act.put { tmps := (a.tmps.setIfInBounds p1 (e1 x)).setIfInBounds p2 (e2 x), defers := [] } (some d1) (e1 x)) (some d2) (e2 x)) W →
      assign.wpIn (Fence.wide.inRound l) (n - 1 - 1) P (Exit.then K (fun _ _ _ => False)) { tmps := (a.tmps.setIfInBounds p1 (e1 x)).setIfInBounds p2 (e2 x), defers := [] } W)
    (hbody : ∀ (l k : Nat) (x : α) (W : World), w.heap.size ≤ l → xs[k]? = some x → I k W → body.wpIn (Fence.wide.inRound l) (n - 1 - 1) P (panPost w.heap.size bT T I Ix Ip k W) (Act.put (Act.put { tmps := (a.tmps.setIfInBounds p1 (e1 x)).setIfInBounds p2 (e2 x), defers := [] } (some d1) (e1 x)) (some d2) (e2 x)) W)
    (hdone : ∀ (W : World), fin = none → I xs.length W → W.heap[w.heap.size]? = some (.deferred (some [])) → Q .normal { a with defers := { target := .collected w.heap.size, args := #[] } :: a.defers } W)
    (hstop : ∀ (c : Code) (k : Nat) (W : World), Ix c k W → W.heap[w.heap.size]? = some (.deferred (some [])) → c.wpIn Fence.wide n P Q { a with defers := { target := .collected w.heap.size, args := #[] } :: a.defers } W)
    (hpan : ∀ (ch : List PanicEntry) (W : World), Ip ch W → W.heap[w.heap.size]? = some (.deferred (some [])) → Q (.panic ch) { a with defers := { target := .collected w.heap.size, args := #[] } :: a.defers } W)
    (hfin : ∀ (v : Value) (W : World), fin = some v → I xs.length W → W.heap[w.heap.size]? = some (.deferred (some [])) → Q (.panic [{ v := v, recovered := false }]) { a with defers := { target := .collected w.heap.size, args := #[] } :: a.defers } W) :
    (Code.rangeFunc g #[p1, p2] assign body).wpF n P f Q a w := by
  have hz : ∀ (x : α) (t : Array Value), ((#[p1, p2] : Array Tmp).zip (encs x)).foldl (fun t (p, v) => t.setIfInBounds p v) t = (t.setIfInBounds p1 (e1 x)).setIfInBounds p2 (e2 x) := fun x t => by rw [henc]; simp
  exact wpF_range_pan hf hg eg hseq (fun x => by rw [henc]; rfl) hbox I Ix Ip hIe hI hIx h0 (fun x => Act.put (Act.put { tmps := (a.tmps.setIfInBounds p1 (e1 x)).setIfInBounds p2 (e2 x), defers := [] } (some d1) (e1 x)) (some d2) (e2 x))
    (fun l x W K hK => by rw [hz]; exact hassign l x W K hK) hbody hdone hstop hpan hfin

theorem wpF_block {f : FuncId} {id : Nat} {c : Code} {Q : Exit → Act → World → Prop} {a : Act} {w : World} (h : c.wpF n P f (Exit.inBlock id Q) a w) : (Code.block id c).wpF n P f Q a w := by
  intro b k cs hro hb
  have fw : ∀ m : Machine, m.fenced P Fence.wide := fun m => fenced_wide P m
  obtain ⟨e, a₁, w₁, hq, harr⟩ := h b (.inBlock id :: k) cs hro hb
  cases e with
  | normal => exact ⟨.normal, a₁, w₁, hq, .head (fw _) stepR_block (StepsIn.trans harr (.one (fw _) stepR_inBlock))⟩
  | exit id' =>
    by_cases hid : id' = id
    · simp only [Exit.inBlock, hid, if_true] at hq
      exact ⟨.normal, a₁, w₁, hq, .head (fw _) stepR_block (harr.1 k (by simp [exitTo, hid]))⟩
    · simp only [Exit.inBlock, hid, if_false] at hq
      have this : (id == id') = false := by simp; exact fun h => hid h.symm
      have hx : exitTo id' (.inBlock id :: k) = exitTo id' k := by simp [exitTo, this]
      exact ⟨.exit id', a₁, w₁, hq, fun k' hk => .head (fw _) stepR_block (harr.1 k' (by rw [hx]; exact hk)),
        fun hr' hk => let ⟨k₁, h1, h2⟩ := harr.2 hr' (by rw [hx]; exact hk); ⟨k₁, h1, .head (fw _) stepR_block h2⟩⟩
  | goto l =>
    have hx : gotoIn l (.inBlock id :: k) = gotoIn l k := by simp [gotoIn]
    exact ⟨_, a₁, w₁, hq, fun k' hk => .head (fw _) stepR_block (harr.1 k' (by rw [hx]; exact hk)),
      fun hr' hk => let ⟨k₁, h1, h2⟩ := harr.2 hr' (by rw [hx]; exact hk); ⟨k₁, h1, .head (fw _) stepR_block h2⟩⟩
  | ret => exact ⟨_, a₁, w₁, hq, .of_steps (.one (fw _) stepR_block) harr⟩
  | panic ch => exact ⟨_, a₁, w₁, hq, .of_steps (.one (fw _) stepR_block) harr⟩
  | outgrown => exact ⟨_, a₁, w₁, hq, .of_steps (.one (fw _) stepR_block) harr⟩
theorem wpF_scope {f : FuncId} {c : Code} {Q : Exit → Act → World → Prop} {a : Act} {w : World} (h : c.wpF n P f (Exit.noGoto Q) a w) : (Code.scope c).wpF n P f Q a w := by
  intro b k cs hro hb
  have fw : ∀ m : Machine, m.fenced P Fence.wide := fun m => fenced_wide P m
  obtain ⟨e, a₁, w₁, hq, harr⟩ := h b (.inScope c :: k) cs hro hb
  cases e with
  | normal => exact ⟨.normal, a₁, w₁, hq, .head (fw _) stepR_scope (StepsIn.trans harr (.one (fw _) stepR_inScope))⟩
  | exit id => exact ⟨.exit id, a₁, w₁, hq, .of_steps (.one (fw _) stepR_scope) ⟨fun k' hk => harr.1 k' (by simp [exitTo, hk]), fun hr2 hk => harr.2 hr2 (by simp [exitTo, hk])⟩⟩
  | goto l => exact hq.elim
  | ret => exact ⟨_, a₁, w₁, hq, .of_steps (.one (fw _) stepR_scope) harr⟩
  | panic ch => exact ⟨_, a₁, w₁, hq, .of_steps (.one (fw _) stepR_scope) harr⟩
  | outgrown => exact ⟨_, a₁, w₁, hq, .of_steps (.one (fw _) stepR_scope) harr⟩
/-- A sequence whose first part is walked plainly. -/
theorem wpF_seq_wp {f : FuncId} {x y : Code} {Q : Exit → Act → World → Prop} {a : Act} {w : World} (h : ∀ K : Act → World → Prop, (∀ a w, y.wpF n P f Q a w → K a w) → x.wp P (Exit.then K Q) a w) : (Code.seq x y).wpF n P f Q a w :=
  wpF_seq (wpF_of_wp (h _ fun _ _ h => h))

/-- Cells that are turned by nobody. -/
theorem LaysAs.turn {W W' : World} {b bT : Nat} {row : Option Nat} {cs : Array Value} {t : TypeId} {fr : Nat × Nat} (h : LaysAs W b (.cells cs t fr)) (hne : b ≠ bT) (hg : W.grownBy W' row) (hr : ∀ r, row = some r → r = bT ∨ ∃ o : Obj, W.heap[r]? = some o ∧ o.isCells = false) : LaysAs W' b (.cells cs t fr) :=
  (hg.block b (Array.getElem?_eq_some_iff.1 h).1 (fun e => by
    rcases hr b e.symm with e2 | ⟨o, ho, hc⟩
    · exact hne e2
    · rw [show W.heap[b]? = _ from h] at ho; cases ho; cases hc)).trans h
theorem exts_turn {A W W' : World} {row : Option Nat} (h : A.Exts W) (hg : W.grownBy W' row) (hb : ∀ r, row = some r → A.heap.size ≤ r) : A.Exts W' :=
  .of (h.below.grown hg h.below.size hb)
end
end Go
namespace Go.Proofs.YtcickafaomfbmaaGreatDoor
open Go.RowKit
theorem laysAs_else {w : World} {b : Nat} {ob : Obj} (h : LaysAs w b ob) {a : Addr} (hne : a.block ≠ b) (u : Value) : LaysAs (w.setCell a u) b ob := by
  unfold LaysAs World.setCell at *
  simp [Array.getElem?_modify, h, hne]
end Go.Proofs.YtcickafaomfbmaaGreatDoor
