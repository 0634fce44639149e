/-
  The law SheetLost: its walk.
-/
import Derived.Test.YtkgchngaganokaaGreatDoorWtB
import Derived.Test.YtkgchngaganokaaGreatDoorUgW
import Derived.Test.YtkgchngaganokaaGreatDoorUfJ
import Derived.Test.YtkgchngaganokaaGreatDoorVwI
import Derived.Test.YtkgchngaganokaaGreatDoorUfJ
import Derived.Test.YtkgchngaganokaaGreatDoorVwI
namespace Go.Proofs.YtkgchngaganokaaGreatDoor
open Go.RowKit Kr
set_option linter.unusedSimpArgs false
set_option linter.unusedVariables false

/-- The bytes of a string that were made, behind other calls. -/
theorem bytes_after {A W : World} {s : ByteArray} (hE : (Lib.bytesWorld A 5 s).Exts W) : BytesAt W A.heap.size s.data.toList ∧ A.Exts W ∧ s.size ≤ grownCap A s.size 0 5 := by
  have hbn := Lib.bytesWorld_at_new A 5 s
  have hcl : s.size ≤ grownCap A s.size 0 5 := grownCap_ge _ _ _ _
  refine ⟨BytesAt.exts ⟨fun j y hy => ?_, fun j hj => ?_, by rw [Lib.bytesWorld_size]; omega⟩ hE, (World.Exts.trans (.of (Lib.bytesWorld_below _ _ _)) hE), hcl⟩
  · have hj : j < s.size := by rw [← tx_len]; exact (List.getElem?_eq_some_iff.1 hy).1
    rw [Lib.bytesWorld_cell A 5 s j hj, List.getD_eq_getElem?_getD, hy]
    rfl
  · rw [tx_len] at hj
    have hsz : s.size ≤ (Lib.bytesCells A 5 s).size := by
      unfold Lib.bytesCells
      rw [Array.size_append, Array.size_map]
      have h1 : s.data.size = s.size := rfl
      omega
    unfold World.frozen?
    rw [hbn]
    simp
    omega
theorem bytes_after_ex {A W : World} {s : ByteArray} (hE : (Lib.bytesWorld A 5 s).Exts W) : ∃ bb cap, bb = A.heap.size ∧ cap = grownCap A s.size 0 5 ∧ BytesAt W bb s.data.toList ∧ A.Exts W ∧ s.size ≤ cap ∧ (∀ b, (Lib.bytesWorld A 5 s).heap.size ≤ b → bb < b) ∧ ∀ w : World, w.Exts A → w.heap.size ≤ bb := by
  obtain ⟨h1, h2, h3⟩ := bytes_after hE
  exact ⟨_, _, rfl, rfl, h1, h2, h3, fun b hb => by rw [Lib.bytesWorld_size] at hb; omega, fun w h => h.size⟩
theorem bytes_append {W W' : World} {v : Value} {base b : Nat} {l : List UInt8} (h : BytesAt W b l) (ha : Appended W W' v base) (hne : v.ownBlock ≠ some b) : BytesAt W' b l := by
  have e := ha.block b h.lt (Ne.symm hne)
  refine ⟨fun j y hy => ?_, fun j hj => ?_, Nat.lt_of_lt_of_le h.lt ha.size⟩
  · have := h.c j y hy
    unfold World.cell? at this ⊢
    rw [e]
    exact this
  · have := h.f j hj
    unfold World.frozen? at this ⊢
    rw [e]
    exact this
/-- What choices say. -/
def byF (by_ : List Int) (t : Nat) : Nat := (roundL by_ t).toNat

/-- The law's loop. -/
structure LoAt (A W : World) (bb : Nat) (f : Nat → Nat) (S : List (List UInt8)) (t : Nat) (m : Nat) (v : Value) : Prop where
  bytes : BytesAt W bb (midText f S t)
  len : (numsFrom f 0 t).length = m
  own : W.ownsRow A.heap.size 3 1 v m ((numsFrom f 0 t).flatMap fun x => [.int .i64 x])
  turn : Turn A W bb

set_option maxRecDepth 4000 in
set_option maxHeartbeats 4000000 in
theorem l11_SheetLost_any (kd : Int) (ps : List (List Int × Value)) (v : Value) (by_ : List Int) (bv : Value) (w : World) (hk : 0 ≤ kd ∧ kd ≤ 255) (h : ListsAt w v ps) (hby : IsRow (fun x : Int => [.int .u32 x]) 1 w bv by_) (hbb : ∀ x ∈ by_, 0 ≤ x ∧ x ≤ 4294967295) (hw : LibAt w) (hc : ColsAt w) :
    Calls Tryz.prog 5 #[.agg #[.int .u8 kd, v], bv] w fun e w' => e = .returned (.bool true) ∧ w.Exts w' := by
  obtain ⟨q, cap, hv⟩ := h.row.len
  subst hv
  obtain ⟨rb, B, hF⟩ := front_of kd ps _ w hk h hw hc
  cases rb
  · have HF := Lib.hid hF
    clear hF
    go_enter Tryz.func5, Tryz.ntmps5
    go_wp2_with (first | (go_at_call 9; refine (HF.out.alive _ exq).mono ?_; rintro e w' ⟨rfl, X19, rfl⟩) | (go_at_call 10; refine (HF.out.ready _ exq).mono ?_; rintro e w' ⟨rfl, X20, rfl⟩))
    go_ret
    exact ⟨rfl, exq⟩
  rcases Nat.lt_or_ge 1500 B.size with hT | hT
  · have hwl := hF.long rfl hT
    have HF := Lib.hid hF
    clear hF
    have HWL := Lib.hid hwl
    clear hwl
    clear hT
    go_enter Tryz.func5, Tryz.ntmps5
    go_wp2_with (first | (go_at_call 9; refine (HF.out.alive _ exq).mono ?_; rintro e w' ⟨rfl, X19, rfl⟩) | (go_at_call 10; refine (HF.out.ready _ exq).mono ?_; rintro e w' ⟨rfl, X20, rfl⟩) | (go_at_call 11; refine (HWL.out _ exq).mono ?_; rintro e w' ⟨rfl, X21, rfl⟩))
    go_ret
    exact ⟨rfl, exq⟩
  have hwl := hF.short rfl hT
  have hsb := (hF.ok rfl).1
  have hfew := (hF.ok rfl).2
  have hB := hF.text
  have hWr : Written kd (ps.map Prod.fst) := ⟨hsb⟩
  have hTl : (textFrom 1 (linesOf kd (ps.map Prod.fst))).length ≤ 1500 := by rw [← hB, tx_len]; exact hT
  have hno := hWr.no10
  have hSl := sealsOf_len kd (ps.map Prod.fst)
  have hrl := repair_lost hsb hTl (byF by_)
  have hrm := fun (k : Nat) (l : List UInt8) (hk : k < (ps.map Prod.fst).length + 2) (h0 : 0 < byF by_ k % 3) (hs : (sealsOf kd (ps.map Prod.fst))[k]? = some l) => lost_last hsb hTl (byF by_) hk h0 hs
  have h5 : ∀ (t : Nat) (l : List UInt8), (sealsOf kd (ps.map Prod.fst))[t]? = some l → 5 ≤ l.length := fun t l hl => by
    have ht := (List.getElem?_eq_some_iff.1 hl).1
    rw [hSl] at ht
    obtain ⟨b, hb, hs⟩ := sealsOf_get (kd := kd) ht
    rw [hl] at hs
    obtain rfl := Option.some.inj hs
    have := (body_len hWr (List.mem_of_getElem? hb)).1
    rw [seal_len]
    omega
  unfold lostText at hrl
  rw [← hB] at hrl
  rw [sealsOf_text] at hB
  generalize sealsOf kd (ps.map Prod.fst) = S at *
  obtain ⟨n, hn⟩ : ∃ n, (ps.map Prod.fst).length + 2 = n := ⟨_, rfl⟩
  rw [hn] at hSl hrl hrm
  have hn98 : n ≤ 98 := by omega
  have hn2 : 2 ≤ n := by omega
  have hen := fun (W : World) => l11_ends_row B W (by omega)
  have hEl : (endsN 0 B.data.toList).length = n := by rw [endsN_len, hB, count_lines _ hno, hSl]
  have hE : ∀ t, t < n → ∃ l : List UInt8, S[t]? = some l ∧ (endsN 0 B.data.toList)[t]? = some ((preLen S t + l.length : Nat) : Int) ∧ preLen S (t + 1) = preLen S t + l.length + 1 ∧ preLen S t + l.length + 1 ≤ B.size ∧ 5 ≤ l.length := fun t ht => by
    obtain ⟨l, hl⟩ : ∃ l, S[t]? = some l := ⟨_, List.getElem?_eq_getElem (by omega)⟩
    have he := ends_at S 0 hno t l hl
    refine ⟨l, hl, ?_, plen_step hl, by rw [← tx_len, hB]; exact (pre_line hl).2, h5 t l hl⟩
    rw [hB, he]
    unfold preLen
    simp
  have hch := fun (t : Nat) (W : World) (hE : w.Exts W) (ht : t ≤ 1000000) => l11_choose_any by_ bv t W (hby.mono hE) hbb ht
  have hcb := fun (t : Nat) => roundL_bd hbb t
  have hcv := fun (W : World) => Lib.run_convert_string_bytes (P := Tryz.prog) W 9 33 5 B (u := .string) Tryz.underlying9 Tryz.underlying33 Tryz.underlying5
  generalize endsN 0 B.data.toList = E at *
  have HF := Lib.hid hF
  clear hF
  have HWL := Lib.hid hwl
  clear hwl
  have HEN := Lib.hid hen
  clear hen
  have HE := Lib.hid hE
  clear hE
  have HB := Lib.hid hB
  clear hB
  have HSL := Lib.hid hSl
  clear hSl
  have HEL := Lib.hid hEl
  clear hEl
  have HRL := Lib.hid hrl
  clear hrl
  have HRM := Lib.hid hrm
  clear hrm
  have HCH := Lib.hid hch
  clear hch
  have HCB := Lib.hid hcb
  clear hcb
  have HLIB := Lib.hid hw
  clear hsb hfew hWr hTl hno h hw hc hk hn h5 hby hbb
  go_enter Tryz.func5, Tryz.ntmps5
  go_wp2_with (first
    | (go_at_call 9; refine (HF.out.alive _ exq).mono ?_; rintro e w' ⟨rfl, X19, rfl⟩)
    | (go_at_call 10; refine (HF.out.ready _ exq).mono ?_; rintro e w' ⟨rfl, X20, rfl⟩)
    | (go_at_call 11; refine (HWL.out _ exq).mono ?_; rintro e w' ⟨rfl, X21, rfl⟩)
    | (go_at_call 14; refine (HEN.out _).mono ?_; rintro e W0 ⟨⟨ve, rfl, hrow, hnew⟩, hE0⟩; obtain ⟨bb, cp, eb, ec, hbx, hAW, hcap, hbn, hbw⟩ := bytes_after_ex hE0; have hwb := hbw w exq; have hwE := World.Exts.trans (exq : w.Exts _) hAW; rw [← ec, ← eb]; obtain ⟨qe, be, oe, ce, rfl, hm, hq, hc⟩ := hrow.ex; have HC := Lib.hid hc; have HQ := Lib.hid hq; have HNW := Lib.hid (fun b hb => hbn b (hnew b hb)); clear hc hq hrow hnew hbn hbw hE0 hAW eb ec))
  have hlt := hbx.lt
  have HBX := Lib.hid hbx
  clear hbx
  rw [HEL.out] at HQ hm HNW
  rw [HEL.out]
  go_loopw [9, 10, 11, 12, 13, 46] (fun ln fr _ _ _ ix wr => ∃ (t m : Nat), t ≤ n ∧ m ≤ t ∧ ix = .int .i64 t ∧ fr = .int .i64 (preLen S t : Nat) ∧ Hid (LoAt W0 wr bb (byF by_) S t m ln)) (fun _ _ _ _ _ ix _ => n - (intOf ix).toNat)
  case atStart => exact ⟨0, 0, Nat.zero_le _, Nat.le_refl _, rfl, rfl, Lib.hid ⟨by rw [midText_zero, ← HB.out]; exact HBX.out, rfl, World.ownsRow_nil _ _ _ _, Turn.refl _ _⟩⟩
  case round =>
    obtain ⟨t, m, ht, hmt, rfl, rfl, hS⟩ := hrel
    obtain ⟨qv, cv, hv⟩ := owns_len hS.out.own
    subst hv
    rcases Nat.lt_or_ge t n with hlt1 | hge
    · obtain ⟨l, hl, he, hpl, hfit, h5l⟩ := HE.out t hlt1
      obtain ⟨rfl, hbe⟩ := HQ.out (by omega)
      have hne : be ≠ bb := by have := HNW.out be rfl; omega
      have c0 := hS.out.turn.cell (HC.out t _ he 0 _ rfl) (by exact hne)
      simp only [Nat.mul_one, Nat.add_zero] at c0
      have lbe := Lays.of_cell c0
      have w1 : (t : Int) < (n : Int) := by omega
      obtain ⟨f, hf⟩ : ∃ f, preLen S t = f := ⟨_, rfl⟩
      rw [hf] at c0 hpl hfit
      rw [hf]
      obtain ⟨x, hx⟩ : ∃ x : Nat, roundL by_ t = (x : Int) := ⟨(roundL by_ t).toNat, by have := (HCB.out t).1; omega⟩
      have hx2 : byF by_ t = x := by unfold byF; rw [hx]; rfl
      have hx3 : (x : Int) ≤ 4294967295 := by rw [← hx]; exact (HCB.out t).2
      have hch := fun (W : World) (hE : w.Exts W) => HCH.out t W hE (by omega)
      rw [hx] at hch
      have hwr := hS.out.turn.base hwE hwb
      have e3 : (x : Int).tmod 3 = ((x % 3 : Nat) : Int) := by rw [Int.tmod_eq_emod_of_nonneg (by omega)]; omega
      have hns := numsFrom_snoc (byF by_) t 0
      rw [Nat.zero_add, hx2] at hns
      rcases Nat.eq_zero_or_pos (x % 3) with h0 | h0
      · have hmk := midText_keep (f := byF by_) hl (by rw [hx2]; omega)
        rw [if_neg (by omega), List.append_nil] at hns
        rw [h0] at e3
        have hS4 : ∀ W, wr.Exts W → LoAt W0 W bb (byF by_) S (t + 1) m (.slice qv m cv) := fun W hE => ⟨by rw [hmk]; exact hS.out.bytes.exts hE, by rw [hns]; exact hS.out.len, by rw [hns]; exact ownsRow_exts hS.out.own hE, hS.out.turn.later hE⟩
        have HS4 := Lib.hid hS4
        clear hS4
        have HCX := Lib.hid hch
        clear hch
        have HWR := Lib.hid hwr
        clear hwr
        have HPL := Lib.hid hpl
        clear hpl
        clear hS hns hmk h0 hx hx2 hl he hf
        go_wp2_with (go_at_call 16; refine (HCX.out _ (World.Exts.trans HWR.out exq)).mono ?_; rintro e w' ⟨rfl, X31, rfl⟩)
        go_roundw
        case rel => exact ⟨t + 1, m, by omega, by omega, by go_num, by rw [HPL.out]; first | rfl | go_num, HS4.out _ exq⟩
        case measure => simp [intOf]; omega
      · have hml := midText_lose (f := byF by_) hl (by rw [hx2]; exact h0) (by omega)
        rw [if_pos h0] at hns
        obtain ⟨m3, hm3⟩ : ∃ m3, x % 3 = m3 := ⟨_, rfl⟩
        rw [hm3] at e3 h0
        have w4 : (0 : Int) < (m3 : Int) := by omega
        obtain ⟨d, hd⟩ : ∃ d, x / 3 = d := ⟨_, rfl⟩
        have e5 : (x : Int).tdiv 3 = (d : Int) := by rw [Int.tdiv_eq_ediv_of_nonneg (by omega)]; omega
        obtain ⟨ln, hln⟩ : ∃ ln, l.length = ln := ⟨_, rfl⟩
        rw [hx2, hd, hln, hf] at hml
        rw [hln] at c0 hpl hfit h5l
        obtain ⟨z, hz⟩ : ∃ z, f + ln = z := ⟨_, rfl⟩
        rw [hz] at c0 hpl hfit
        have e4 : (z : Int) - (f : Int) = (ln : Int) := by omega
        obtain ⟨p, hp⟩ : ∃ p, d % ln = p := ⟨_, rfl⟩
        have hpl2 : p < ln := by rw [← hp]; exact Nat.mod_lt _ (by omega)
        have e6 : (d : Int).tmod (ln : Int) = (p : Int) := by rw [Int.tmod_eq_emod_of_nonneg (by omega), ← hp]; simp
        rw [hp] at hml
        obtain ⟨pz, hpz⟩ : ∃ pz, f + p = pz := ⟨_, rfl⟩
        rw [hpz] at hml
        have e7 : (f : Int) + (p : Int) = (pz : Int) := by omega
        have hpb : pz < B.size := by omega
        have w5 : (pz : Int) < (B.size : Int) := by omega
        have w6 : ¬ (ln : Int) = 0 := by omega
        have w7 : (ln : Int) ≤ 1500 := by omega
        have w8 : (d : Int) ≤ 4294967295 := by omega
        have hbl : (midText (byF by_) S t).length = B.size := by rw [midText_len, ← HB.out, tx_len]
        obtain ⟨y, hy⟩ : ∃ y, (midText (byF by_) S t)[pz]? = some y := ⟨_, List.getElem?_eq_getElem (by omega)⟩
        have d0 := hS.out.bytes.c pz y hy
        have f0 := hS.out.bytes.f pz (by omega)
        have lbb := Lays.of_cell d0
        have hbb : ∀ W, wr.Exts W → BytesAt (W.setCell ⟨bb, pz, none⟩ (.int .u8 63)) bb (midText (byF by_) S (t + 1)) := fun W hE => by
          rw [hml]
          exact BytesAt.set (hS.out.bytes.exts hE) pz 63
        have hS2 := hS.out
        have HS2 := Lib.hid hS2
        clear hS2
        have HBB := Lib.hid hbb
        clear hbb
        have HNS := Lib.hid hns
        clear hns
        have HCX := Lib.hid hch
        clear hch
        have HWR := Lib.hid hwr
        clear hwr
        have HPL := Lib.hid hpl
        clear hpl
        clear hS hml hx hx2 hl he hf hm3 hd hln hz hp hpz hy hbl
        go_wp2_with (first
          | (go_at_call 16; refine (HCX.out _ (World.Exts.trans HWR.out exq)).mono ?_; rintro e w' ⟨rfl, X31, rfl⟩)
          | (at_builtin; refine wpList_append1W (.tmp 67) (.tmp 70) elem_int rfl rfl rfl (World.ownsRow.set (ownsRow_exts HS2.out.own exq) (p := ⟨bb, pz, none⟩) hlt (.int .u8 63)) [.int .i64 ((t : Int) + 1)] _ (by simp) rfl rfl ?ja ?jb ?jc ?jd ?_))
        case ja => intro u hu; simp at hu; subst hu; rfl
        case jb => omega
        try (case jc => decide)
        case jd => exact ((HS2.out.turn.later (W' := World.ext wr X31) exq).set hlt pz (.int .u8 63)).size
        intro v' w' hown' happ
        have hS4 : LoAt W0 w' bb (byF by_) S (t + 1) (m + 1) v' := by
          refine ⟨bytes_append (HBB.out (World.ext wr X31) exq) happ.toAppended (fun e => ?_), ?_, ?_, ((HS2.out.turn.later (W' := World.ext wr X31) exq).set hlt pz (.int .u8 63)).appended happ.toAppended (Nat.le_refl _)⟩
          · have := (HS2.out.own.lt bb e).1
            omega
          · rw [HNS.out, List.length_append, HS2.out.len]
            rfl
          · rw [HNS.out, List.flatMap_append]
            exact hown'
        obtain ⟨qw, cw, hv2⟩ := owns_len hown'
        subst hv2
        have HS4 := Lib.hid hS4
        clear hS4
        clear happ hown' HS2 HBB
        go_wp2_with fail
        go_roundw
        case rel => exact ⟨t + 1, m + 1, by omega, by omega, by go_num, by rw [HPL.out]; first | rfl | go_num, HS4⟩
        case measure => simp [intOf]; omega
    · obtain rfl : t = n := by omega
      have w1 : ¬ (t : Int) < (t : Int) := by omega
      have hall := midText_all (byF by_) S
      rw [HSL.out] at hall
      have hS2 := hS.out
      have hwr := hS2.turn.base hwE hwb
      obtain ⟨NL, hNL⟩ : ∃ l, numsFrom (byF by_) 0 t = l := ⟨_, rfl⟩
      have hrow : IsRow (fun x : Int => [.int .i64 x]) 1 wr (.slice qv m cv) NL := IsRow.of_owns (by rw [← hNL, hS2.len]; exact hS2.own) fun _ _ => rfl
      have hNm : NL.length = m := by rw [← hNL]; exact hS2.len
      obtain ⟨LB, hLB⟩ : ∃ s : ByteArray, s = ⟨(midText (byF by_) S t).toArray⟩ := ⟨_, rfl⟩
      have hLB2 : LB.data.toList = (lostFrom (byF by_) 0 S).flatMap (· ++ [10]) := by rw [hLB, ← hall]
      have hbl : (midText (byF by_) S t).length = B.size := by rw [midText_len, ← HB.out, tx_len]
      have hLBz : LB.size = B.size := by rw [← tx_len, hLB2, ← hall, hbl]
      have hcv1 := bytes_string hS2.bytes B.size cp (by omega)
      rw [List.take_of_length_le (by omega), ← hLB] at hcv1
      have hrl := HRL.out
      rw [← hLB2, hNL] at hrl
      have hrep := fun (W : World) (hE : wr.Exts W) => (sheet_Repair_any LB W (HLIB.out.mono (hwr.trans hE))).mono fun e w' h2 => h2.det
      rw [hrl] at hrep
      rw [show bytesT ((B.data.toList, NL), (0 : Int)).1.1 = B from tx_inj rfl] at hrep
      dsimp only at hrep
      rw [hNm] at hrep
      have hsame := fun (W : World) (v1 v2 : Value) (h1 : IsRow (fun x : Int => [.int .i64 x]) 1 W v1 NL) (h2 : IsRow (fun x : Int => [.int .i64 x]) 1 W v2 NL) => r01_SameInts_any NL v1 v2 W h1 h2
      have hby1 := hS2.bytes
      rw [hall, ← hLB2] at hby1
      have HREP := Lib.hid hrep
      clear hrep
      have HSM := Lib.hid hsame
      clear hsame
      have HROW := Lib.hid hrow
      clear hrow
      have HBY := Lib.hid hby1
      clear hby1
      have HWR := Lib.hid hwr
      clear hwr
      have HNL := Lib.hid hNL
      clear hNL
      have HNM := Lib.hid hNm
      clear hNm
      have HLB2 := Lib.hid hLB2
      clear hLB2
      have HLBZ := Lib.hid hLBz
      clear hLBz
      clear hS hS2 hall hLB hbl hrl
      rcases Nat.eq_zero_or_pos m with h0 | h0
      · have m1 : ((m : Int) == 0) = true := by simp [h0]
        have HM0 := Lib.hid h0
        clear h0
        go_wp2_with (first
          | (go_at_call 17; refine (HREP.out _ exq).mono ?_; rintro e w' ⟨q41, c41, rfl, hr41, X41, rfl⟩; have HR41 := Lib.hid hr41; clear hr41)
          | (go_at_call 18; refine (HSM.out _ _ _ (HR41.out.mono exq) (HROW.out.mono exq)).mono ?_; rintro e w' ⟨rfl, X42, rfl⟩))
        go_ret
        exact ⟨rfl, World.Exts.trans HWR.out exq⟩
      have m1 : ((m : Int) == 0) = false := beq_eq_false_iff_ne.2 (by omega)
      -- the line that loses one more
      obtain ⟨y, hy⟩ : ∃ y : Nat, roundL by_ 200 = (y : Int) := ⟨(roundL by_ 200).toNat, by have := (HCB.out 200).1; omega⟩
      have hy3 : (y : Int) ≤ 4294967295 := by rw [← hy]; exact (HCB.out 200).2
      have hch := fun (W : World) (hE : wr.Exts W) => HCH.out 200 W (HWR.out.trans hE) (by decide)
      rw [hy] at hch
      obtain ⟨j, hj⟩ : ∃ j, y % m = j := ⟨_, rfl⟩
      have hjm : j < m := by rw [← hj]; exact Nat.mod_lt _ h0
      have e1 : (y : Int).tmod (m : Int) = (j : Int) := by rw [Int.tmod_eq_emod_of_nonneg (by omega), ← hj]; simp
      obtain ⟨nk, hnk⟩ : ∃ nk, NL[j]? = some nk := ⟨_, List.getElem?_eq_getElem (by rw [HNM.out]; exact hjm)⟩
      obtain ⟨k, _, hkt, hk3, hke⟩ := (numsFrom_mem (byF by_) t 0 nk).1 (by rw [HNL.out]; exact List.mem_of_getElem? hnk)
      rw [Nat.zero_add] at hkt
      obtain ⟨ql, bl, ol, cl, hqe, hml2, hq2, hc2⟩ := HROW.out.ex
      simp only [Value.slice.injEq] at hqe
      obtain ⟨rfl, hx9, rfl⟩ := hqe
      clear hx9
      obtain ⟨rfl, _⟩ := hq2 (by rw [HNM.out]; exact h0)
      have cj := hc2 j nk hnk 0 _ rfl
      simp only [Nat.mul_one, Nat.add_zero] at cj
      rw [hke] at cj
      have lbl := Lays.of_cell cj
      obtain ⟨l, hl, he, _, hfit, h5l⟩ := HE.out k hkt
      obtain ⟨z1, hz1, hz2, hA, hB2⟩ := HRM.out k l hkt hk3 hl
      rw [← HLB2.out] at hA hB2
      obtain ⟨n1, hn1⟩ : ∃ n1, k + 1 = n1 := ⟨_, rfl⟩
      rw [hn1] at cj hA hB2
      have e2 : (n1 : Int) - 1 = (k : Int) := by omega
      obtain ⟨z, hz⟩ : ∃ z, preLen S k + l.length = z := ⟨_, rfl⟩
      rw [hz] at he hz1 hfit
      have e3 : (z : Int) - 1 = (z1 : Int) := by omega
      obtain ⟨z2, hz3⟩ : ∃ z2, z2 + 1 = z1 := ⟨z1 - 1, by omega⟩
      have e4 : (z1 : Int) - 1 = (z2 : Int) := by omega
      rw [show z1 - 1 = z2 by omega] at hA
      have b1 : (z1 : Int) < (B.size : Int) := by omega
      have b2 : (z2 : Int) < (B.size : Int) := by omega
      have b3 : (k : Int) < (t : Int) := by omega
      have b4 : (j : Int) < (m : Int) := by omega
      have hzl : z1 < LB.size := by rw [HLBZ.out]; omega
      obtain ⟨y1, hy1⟩ : ∃ y1, LB.data.toList[z1]? = some y1 := ⟨_, List.getElem?_eq_getElem (by rw [tx_len]; omega)⟩
      obtain ⟨y2, hy2⟩ : ∃ y2, LB.data.toList[z2]? = some y2 := ⟨_, List.getElem?_eq_getElem (by rw [tx_len]; omega)⟩
      have d1 := HBY.out.c z1 y1 hy1
      have d2 := HBY.out.c z2 y2 hy2
      have f1 := HBY.out.f z1 (by rw [tx_len]; omega)
      have f2 := HBY.out.f z2 (by rw [tx_len]; omega)
      have lbb := Lays.of_cell d1
      -- what is told of a text that lost one more
      have hmore : ∀ pos : Nat, repairR (LB.data.toList.set pos 63) = (([], [(n1 : Int)]), 113) → ∀ W : World, wr.Exts W → (convert 33 9 (.slice (some ⟨bb, 0, none⟩) B.size cp)).run Tryz.prog (W.setCell ⟨bb, pos, none⟩ (.int .u8 63)) = .ok (.string ⟨(LB.data.toList.set pos 63).toArray⟩) (W.setCell ⟨bb, pos, none⟩ (.int .u8 63)) ∧ ∀ W2 : World, w.Exts W2 → Calls Tryz.prog 17 #[.string ⟨(LB.data.toList.set pos 63).toArray⟩] W2 fun e w' => ∃ q c, e = .returned (.tuple #[.string ⟨#[]⟩, .slice q 1 c, .int .i64 113]) ∧ IsRow (fun x : Int => [.int .i64 x]) 1 w' (.slice q 1 c) [(n1 : Int)] ∧ W2.Exts w' := fun pos hr W hE => by
        refine ⟨?_, fun W2 hE2 => ?_⟩
        · have hb := bytes_string (BytesAt.set (HBY.out.exts hE) pos 63) B.size cp (by rw [List.length_set, tx_len, HLBZ.out]; exact Nat.le_refl _)
          rw [List.take_of_length_le (by rw [List.length_set, tx_len, HLBZ.out]; exact Nat.le_refl _)] at hb
          exact hb
        · have h2 := sheet_Repair_any (⟨(LB.data.toList.set pos 63).toArray⟩ : ByteArray) W2 (HLIB.out.mono hE2)
          rw [show (⟨(LB.data.toList.set pos 63).toArray⟩ : ByteArray).data.toList = LB.data.toList.set pos 63 from rfl, hr] at h2
          exact h2.mono fun e w' h3 => h3.det
      have HMORE := Lib.hid hmore
      clear hmore
      have HCX := Lib.hid hch
      clear hch
      have HE5 := Lib.hid he
      clear he
      clear hc2 hq2 hml2 hy2 hl hj hz hy hnk hke hkt hk3 hn1
      by_cases h63 : y1 = 63
      · subst h63
        have hr1 := hA hy1
        have HR1 := Lib.hid hr1
        clear hr1
        clear hA hB2 hy1
        go_upto_region 29 with (first
          | (go_at_call 17; refine (HREP.out _ exq).mono ?_; rintro e w' ⟨q41, c41, rfl, hr41, X41, rfl⟩; have HR41 := Lib.hid hr41; clear hr41 HREP)
          | (go_at_call 18; refine (HSM.out _ _ _ (HR41.out.mono exq) (HROW.out.mono exq)).mono ?_; rintro e w' ⟨rfl, X42, rfl⟩; clear HR41)
          | (go_at_call 16; refine (HCX.out _ exq).mono ?_; rintro e w' ⟨rfl, X43, rfl⟩)
          | (go_at_call 14; refine (HEN.out _).mono ?_; rintro e w' ⟨⟨v5, rfl, hr5, _⟩, X44, rfl⟩; obtain ⟨q5, b5, o5, c5, rfl, hm5, hq5, hc5⟩ := hr5.ex; obtain ⟨rfl, _⟩ := hq5 (by rw [HEL.out]; omega); have c5k := hc5 k _ HE5.out 0 _ rfl; simp only [Nat.mul_one, Nat.add_zero] at c5k; have l5 := Lays.of_cell c5k; rw [HEL.out]; clear hq5 hc5 hr5))
        have hcv9 := (HMORE.out z2 HR1.out (World.ext (World.ext (World.ext (World.ext wr X41) X42) X43) X44) exq).1
        have hrp9 := (HMORE.out z2 HR1.out wr (World.Exts.refl _)).2
        have HRP9 := Lib.hid hrp9
        clear hrp9
        have hw9 := World.Exts.setCell (p := ⟨bb, z2, none⟩) (World.Exts.trans HWR.out (exq : wr.Exts (World.ext (World.ext (World.ext (World.ext wr X41) X42) X43) X44))) (by dsimp only; omega) (.int .u8 63)
        have HW9 := Lib.hid hw9
        clear hw9
        clear HB HSL HRL HRM HCB HLIB HBY HNL HNM HLBZ HE HF HWL HMORE HCX HC HQ HNW HBX HROW
        go_wp2_with (first
          | (go_at_call 17; refine (HRP9.out _ HW9.out).mono ?_; rintro e w' ⟨q45, c45, rfl, hr45, X45, rfl⟩; have HR45 := Lib.hid hr45; clear hr45)
          | (go_at_call 18; refine (r01_SameInts_any [(n1 : Int)] _ _ _ (HR45.out.mono exq) (row_one _ _)).mono ?_; rintro e w' ⟨rfl, X46, rfl⟩))
        go_ret
        exact ⟨rfl, World.Exts.trans HW9.out exq⟩
      · have hr1 := hB2 (by rw [hy1]; exact fun e => h63 (Option.some.inj e))
        have y63 : ((y1.toNat : Int) == 63) = false := by
          rw [beq_eq_false_iff_ne]
          intro e
          exact h63 (UInt8.toNat.inj (by have : (63 : UInt8).toNat = 63 := rfl; omega))
        have HR1 := Lib.hid hr1
        clear hr1
        clear hA hB2 hy1 h63
        go_upto_region 29 with (first
          | (go_at_call 17; refine (HREP.out _ exq).mono ?_; rintro e w' ⟨q41, c41, rfl, hr41, X41, rfl⟩; have HR41 := Lib.hid hr41; clear hr41 HREP)
          | (go_at_call 18; refine (HSM.out _ _ _ (HR41.out.mono exq) (HROW.out.mono exq)).mono ?_; rintro e w' ⟨rfl, X42, rfl⟩; clear HR41)
          | (go_at_call 16; refine (HCX.out _ exq).mono ?_; rintro e w' ⟨rfl, X43, rfl⟩)
          | (go_at_call 14; refine (HEN.out _).mono ?_; rintro e w' ⟨⟨v5, rfl, hr5, _⟩, X44, rfl⟩; obtain ⟨q5, b5, o5, c5, rfl, hm5, hq5, hc5⟩ := hr5.ex; obtain ⟨rfl, _⟩ := hq5 (by rw [HEL.out]; omega); have c5k := hc5 k _ HE5.out 0 _ rfl; simp only [Nat.mul_one, Nat.add_zero] at c5k; have l5 := Lays.of_cell c5k; rw [HEL.out]; clear hq5 hc5 hr5))
        have hcv9 := (HMORE.out z1 HR1.out (World.ext (World.ext (World.ext (World.ext wr X41) X42) X43) X44) exq).1
        have hrp9 := (HMORE.out z1 HR1.out wr (World.Exts.refl _)).2
        have HRP9 := Lib.hid hrp9
        clear hrp9
        have hw9 := World.Exts.setCell (p := ⟨bb, z1, none⟩) (World.Exts.trans HWR.out (exq : wr.Exts (World.ext (World.ext (World.ext (World.ext wr X41) X42) X43) X44))) (by dsimp only; omega) (.int .u8 63)
        have HW9 := Lib.hid hw9
        clear hw9
        clear HB HSL HRL HRM HCB HLIB HBY HNL HNM HLBZ HE HF HWL HMORE HCX HC HQ HNW HBX HROW
        go_wp2_with (first
          | (go_at_call 17; refine (HRP9.out _ HW9.out).mono ?_; rintro e w' ⟨q45, c45, rfl, hr45, X45, rfl⟩; have HR45 := Lib.hid hr45; clear hr45)
          | (go_at_call 18; refine (r01_SameInts_any [(n1 : Int)] _ _ _ (HR45.out.mono exq) (row_one _ _)).mono ?_; rintro e w' ⟨rfl, X46, rfl⟩))
        go_ret
        exact ⟨rfl, World.Exts.trans HW9.out exq⟩
end Go.Proofs.YtkgchngaganokaaGreatDoor
