/-
  Walks: what two totals have in common, and what is known of it.
-/
import Derived.Test.YtomcenfikdmmkaaGreatDoorJd
import Derived.Test.YtomcenfikdmmkaaGreatDoorTi
import Derived.Test.YtomcenfikdmmkaaGreatDoorComm
namespace Go.Proofs.YtomcenfikdmmkaaGreatDoor
open Go.RowKit Kr
set_option linter.unusedSimpArgs false

theorem row_gear2 (w : World) (x y : GearV) (n : Nat) (hn : n = w.heap.size) : IsRow gearC 8 (w.alloc (.cells (gearC x ++ gearC y).toArray 28)) (.slice (some ⟨n, 0, none⟩) 2 2) [x, y] := by
  have h : BlkAt (w.alloc (.cells (gearC x ++ gearC y).toArray 28)) n (([x, y] : List GearV).flatMap gearC) := by
    have h := BlkAt.new w (gearC x ++ gearC y) 28 hn
    simpa using h
  exact IsRow.of_blk (enc := gearC) (k := 8) (xs := [x, y]) (fun _ => rfl) h ⟨by subst hn; simp⟩ (by simp)

set_option maxRecDepth 4000 in
set_option maxHeartbeats 2000000 in
theorem r04_common_any (a b : List Span) (va vb : Value) (w : World) (ha : IsRow (fun t : Kr.Span => [.int .i64 t.lo, .int .i64 t.hi]) 2 w va a) (hb : IsRow (fun t : Kr.Span => [.int .i64 t.lo, .int .i64 t.hi]) 2 w vb b) (wa : Within 0 40000000000 a) (na : Neat a) (nb : Neat b) :
    Calls Tryz.prog 39 #[va, vb] w fun e w' => ∃ v', e = .returned v' ∧ IsRow (fun t : Kr.Span => [.int .i64 t.lo, .int .i64 t.hi]) 2 w' v' (merged (commonL a b)) ∧ w.Exts w' := by
  obtain ⟨q1, b1, o1, cap1, rfl, hm1, hq1, hc1⟩ := ha.ex
  obtain ⟨q2, b2, o2, cap2, rfl, hm2, hq2, hc2⟩ := hb.ex
  have hcf := common_full a b
  have hcw : Within 0 100000000000 (commonL a b) := within_le (common_within wa) (by omega)
  have hcl : (commonL a b).length ≤ 1000000000000 := common_few na nb wa
  have htf : ∀ k s m, a[k]? = some s → (commonL (a.take k) b ++ commonOne s (b.take m)).length ≤ 1000000000000 := fun k s m h => common_take_few na nb wa h m
  have HTF := Lib.hid htf
  clear htf
  have HCF := Lib.hid hcf
  clear hcf
  have HCW := Lib.hid hcw
  clear hcw
  have HC1 := Lib.hid hc1
  clear hc1
  have HC2 := Lib.hid hc2
  clear hc2
  have HQ1 := Lib.hid hq1
  clear hq1
  have HQ2 := Lib.hid hq2
  clear hq2
  clear ha hb wa na nb
  go_enter Tryz.func39, Tryz.ntmps39
  go_wp2_with fail
  go_loopw [5, 6] (fun out i wr => ∃ k : Nat, k ≤ a.length ∧ i = .int .i64 k ∧ Hid (wr.ownsRow w.heap.size 30 2 out (commonL (a.take k) b).length (spanCs (commonL (a.take k) b))) ∧ w.Exts wr) (fun _ i _ => a.length - (intOf i).toNat)
  case atStart => exact ⟨0, Nat.zero_le _, rfl, Lib.hid (World.ownsRow_nil _ _ _ _), (by repeat' (first | with_reducible exact World.Exts.refl _ | with_reducible refine World.Exts.alloc ?_ _ | with_reducible refine World.Exts.drew ?_ | with_reducible refine World.Exts.drewN ?_ _ | with_reducible refine World.Exts.ext ?_ _ | with_reducible refine World.Exts.setCell ?_ ?_ _ | (simp; done) | exact World.size_ext_le _ _ | (simp; omega)))⟩
  case round =>
    obtain ⟨k, hk, rfl, HO, hE⟩ := hrel
    obtain ⟨X, rfl⟩ := hE
    by_cases hlt : k < a.length
    · obtain ⟨rfl, hl1⟩ := HQ1.out (by omega)
      obtain ⟨s, hs⟩ := some_of_lt hlt
      have hcs := HC1.out k s hs
      have c0 := hcs 0 _ rfl
      have c1 := hcs 1 _ rfl
      simp only [Nat.add_zero] at c0 c1
      have hnk : commonL (a.take (k + 1)) b = commonL (a.take k) b ++ commonOne s b := by rw [take_snoc hs, commonL_snoc]
      have hlk := fun m => HTF.out k s m hs
      have HNK := Lib.hid hnk
      clear hnk
      have HLK := Lib.hid hlk
      clear hlk
      clear hs hcs HQ1
      go_wp2_with fail
      go_loopw [5, 7] (fun out i wr => ∃ m : Nat, m ≤ b.length ∧ i = .int .i64 m ∧ Hid (wr.ownsRow w.heap.size 30 2 out (commonL (a.take k) b ++ commonOne s (b.take m)).length (spanCs (commonL (a.take k) b ++ commonOne s (b.take m)))) ∧ w.Exts wr) (fun _ i _ => b.length - (intOf i).toNat)
      case atStart => exact ⟨0, Nat.zero_le _, rfl, Lib.hid (by simpa [commonOne] using ownsRow_exts HO.out (by repeat' (first | with_reducible exact World.Exts.refl _ | with_reducible refine World.Exts.alloc ?_ _ | with_reducible refine World.Exts.drew ?_ | with_reducible refine World.Exts.drewN ?_ _ | with_reducible refine World.Exts.ext ?_ _ | with_reducible refine World.Exts.setCell ?_ ?_ _ | (simp; done) | exact World.size_ext_le _ _ | (simp; omega)))), (by repeat' (first | with_reducible exact World.Exts.refl _ | with_reducible refine World.Exts.alloc ?_ _ | with_reducible refine World.Exts.drew ?_ | with_reducible refine World.Exts.drewN ?_ _ | with_reducible refine World.Exts.ext ?_ _ | with_reducible refine World.Exts.setCell ?_ ?_ _ | (simp; done) | exact World.size_ext_le _ _ | (simp; omega)))⟩
      case round =>
        obtain ⟨m, hm, rfl, HO2, hE⟩ := hrel
        obtain ⟨X2, rfl⟩ := hE
        by_cases hlt2 : m < b.length
        · obtain ⟨rfl, hl2⟩ := HQ2.out (by omega)
          obtain ⟨t, ht⟩ := some_of_lt hlt2
          have hct := HC2.out m t ht
          have d0 := hct 0 _ rfl
          have d1 := hct 1 _ rfl
          simp only [Nat.add_zero] at d0 d1
          have hnx : commonL (a.take k) b ++ commonOne s (b.take (m + 1)) = commonL (a.take k) b ++ commonOne s (b.take m) ++ (if max s.lo t.lo ≤ min s.hi t.hi then [⟨max s.lo t.lo, min s.hi t.hi⟩] else []) := by rw [take_snoc ht, commonOne_snoc, List.append_assoc]
          have hlm := HLK.out m
          generalize hL : commonL (a.take k) b ++ commonOne s (b.take m) = L at hnx hlm HO2
          clear ht hct HQ2 hL
          rcases Int.lt_or_le (min s.hi t.hi) (max s.lo t.lo) with hc | hc
          · rw [if_neg (by omega), List.append_nil] at hnx
            have HNX := Lib.hid hnx
            clear hnx
            go_wp2_with fail
            refine wp_region_alloc 24 23 _ (.cells #[.int .i64 0, .int .i64 0] 30) (by kernel_rfl) (fun pp => by kernel_rfl) (by kernel_rfl) rfl rfl rfl (by decide) (fun a W => by kernel_rfl) ?_
            apply Exists.intro
            refine ⟨fun pp hpp T hT L hL => ?_, fun pp => ?_, fun pp Wp hpp hEp hop => ?_⟩
            · haveI := hT.2
              simp only [mvOp, List.set_cons_succ, List.set_cons_zero, List.take_succ_cons, List.take_zero]
              repeat (go_big_quiet_step (fail))
              exact wpQuiet_nil hL
            · rfl
            simp only [List.drop_succ_cons, List.drop_zero]
            obtain ⟨X5, rfl⟩ := hEp
            have p0 := cells_block (cs := [.int .i64 0, .int .i64 0]) hop 0 _ rfl
            have p1 := cells_block (cs := [.int .i64 0, .int .i64 0]) hop 1 _ rfl
            have z0 := block_frozen (i := 0) hop
            have z1 := block_frozen (i := 1) hop
            have hLp := Lays.of_cell p0
            have hpp3 : w.heap.size ≤ pp := by have h1 := World.size_ext_le _ X2; have h2 := World.size_ext_le _ X; omega
            have hdc : decide (max s.lo t.lo ≤ min s.hi t.hi) = false := by simp; omega
            clear hop
            go_wp2_with fail
            go_roundw
            case rel => exact ⟨m + 1, by omega, by go_num, Lib.hid (by rw [HNX.out]; exact ownsRow_exts HO2.out (by repeat' (first | with_reducible exact World.Exts.refl _ | with_reducible refine World.Exts.alloc ?_ _ | with_reducible refine World.Exts.drew ?_ | with_reducible refine World.Exts.drewN ?_ _ | with_reducible refine World.Exts.ext ?_ _ | with_reducible refine World.Exts.setCell ?_ ?_ _ | (simp; done) | exact World.size_ext_le _ _ | (simp; omega)))), (by repeat' (first | with_reducible exact World.Exts.refl _ | with_reducible refine World.Exts.alloc ?_ _ | with_reducible refine World.Exts.drew ?_ | with_reducible refine World.Exts.drewN ?_ _ | with_reducible refine World.Exts.ext ?_ _ | with_reducible refine World.Exts.setCell ?_ ?_ _ | (simp; done) | exact World.size_ext_le _ _ | (simp; omega)))⟩
            case measure => simp [intOf]; omega
          · rw [if_pos hc] at hnx
            have HNX := Lib.hid hnx
            clear hnx
            go_wp2_with fail
            refine wp_region_alloc 24 23 _ (.cells #[.int .i64 0, .int .i64 0] 30) (by kernel_rfl) (fun pp => by kernel_rfl) (by kernel_rfl) rfl rfl rfl (by decide) (fun a W => by kernel_rfl) ?_
            apply Exists.intro
            refine ⟨fun pp hpp T hT L hL => ?_, fun pp => ?_, fun pp Wp hpp hEp hop => ?_⟩
            · haveI := hT.2
              simp only [mvOp, List.set_cons_succ, List.set_cons_zero, List.take_succ_cons, List.take_zero]
              repeat (go_big_quiet_step (fail))
              exact wpQuiet_nil hL
            · rfl
            simp only [List.drop_succ_cons, List.drop_zero]
            obtain ⟨X5, rfl⟩ := hEp
            have p0 := cells_block (cs := [.int .i64 0, .int .i64 0]) hop 0 _ rfl
            have p1 := cells_block (cs := [.int .i64 0, .int .i64 0]) hop 1 _ rfl
            have z0 := block_frozen (i := 0) hop
            have z1 := block_frozen (i := 1) hop
            have hLp := Lays.of_cell p0
            have hpp3 : w.heap.size ≤ pp := by have h1 := World.size_ext_le _ X2; have h2 := World.size_ext_le _ X; omega
            have hdc : decide (max s.lo t.lo ≤ min s.hi t.hi) = true := by simp; omega
            clear hop
            go_wp2_with (at_builtin; refine wpList_append1W (.tmp 49) (.tmp 51) elem_Span rfl rfl rfl (ownsRow_exts HO2.out (by repeat' (first | with_reducible exact World.Exts.refl _ | with_reducible refine World.Exts.alloc ?_ _ | with_reducible refine World.Exts.drew ?_ | with_reducible refine World.Exts.drewN ?_ _ | with_reducible refine World.Exts.ext ?_ _ | with_reducible refine World.Exts.setCell ?_ ?_ _ | (simp; done) | exact World.size_ext_le _ _ | (simp; omega)))) [.int .i64 (max s.lo t.lo), .int .i64 (min s.hi t.hi)] _ (by simp) rfl rfl ?h1 ?h2 ?h4 ?h3 ?_)
            case h1 => exact one_Span ⟨max s.lo t.lo, min s.hi t.hi⟩
            case h2 => omega
            case h4 => decide
            case h3 => exact World.Exts.size (by repeat' (first | with_reducible exact World.Exts.refl _ | with_reducible refine World.Exts.alloc ?_ _ | with_reducible refine World.Exts.drew ?_ | with_reducible refine World.Exts.drewN ?_ _ | with_reducible refine World.Exts.ext ?_ _ | with_reducible refine World.Exts.setCell ?_ ?_ _ | (simp; done) | exact World.size_ext_le _ _ | (simp; omega)))
            intro v' w' hown' happ
            have hE := happ.exts w (by repeat' (first | with_reducible exact World.Exts.refl _ | with_reducible refine World.Exts.alloc ?_ _ | with_reducible refine World.Exts.drew ?_ | with_reducible refine World.Exts.drewN ?_ _ | with_reducible refine World.Exts.ext ?_ _ | with_reducible refine World.Exts.setCell ?_ ?_ _ | (simp; done) | exact World.size_ext_le _ _ | (simp; omega))) (Nat.le_refl _)
            have HO3 := Lib.hid hown'
            clear hown'
            have HE := Lib.hid hE
            clear hE
            clear happ
            go_wp2_with fail
            go_roundw
            case rel => exact ⟨m + 1, by omega, by go_num, Lib.hid (by rw [HNX.out, spanCs_snoc, List.length_append]; exact HO3.out), HE.out⟩
            case measure => simp [intOf]; omega
        · have hmb : m = b.length := by omega
          have hO := HO2.out
          rw [hmb, List.take_length, ← HNK.out] at hO
          have HO3 := Lib.hid hO
          clear hO
          clear hmb
          go_wp2_with fail
          go_roundw
          case rel => exact ⟨k + 1, by omega, by go_num, Lib.hid HO3.out, (by repeat' (first | with_reducible exact World.Exts.refl _ | with_reducible refine World.Exts.alloc ?_ _ | with_reducible refine World.Exts.drew ?_ | with_reducible refine World.Exts.drewN ?_ _ | with_reducible refine World.Exts.ext ?_ _ | with_reducible refine World.Exts.setCell ?_ ?_ _ | (simp; done) | exact World.size_ext_le _ _ | (simp; omega)))⟩
          case measure => simp [intOf]; omega
    · have hka : k = a.length := by omega
      have hO := HO.out
      rw [hka, List.take_length] at hO
      have hrw := row_spans hO
      have HRW := Lib.hid hrw
      clear hrw
      clear hka HO hO
      go_wp2_with (go_at_call 81; refine (r04_Merged_any (commonL a b) _ _ (HRW.out.mono (by repeat' (first | with_reducible exact World.Exts.refl _ | with_reducible refine World.Exts.alloc ?_ _ | with_reducible refine World.Exts.drew ?_ | with_reducible refine World.Exts.drewN ?_ _ | with_reducible refine World.Exts.ext ?_ _ | with_reducible refine World.Exts.setCell ?_ ?_ _ | (simp; done) | exact World.size_ext_le _ _ | (simp; omega)))) HCF.out HCW.out hcl).mono ?_; rintro e w' ⟨v', rfl, hv, X2, rfl⟩; obtain ⟨q, cp, rfl⟩ := hv.len; have HV := Lib.hid hv; clear hv)
      go_ret
      exact ⟨_, rfl, HV.out, (by repeat' (first | with_reducible exact World.Exts.refl _ | with_reducible refine World.Exts.alloc ?_ _ | with_reducible refine World.Exts.drew ?_ | with_reducible refine World.Exts.drewN ?_ _ | with_reducible refine World.Exts.ext ?_ _ | with_reducible refine World.Exts.setCell ?_ ?_ _ | (simp; done) | exact World.size_ext_le _ _ | (simp; omega)))⟩
end Go.Proofs.YtomcenfikdmmkaaGreatDoor
