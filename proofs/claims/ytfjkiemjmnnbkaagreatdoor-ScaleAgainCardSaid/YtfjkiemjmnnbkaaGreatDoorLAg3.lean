/-
  The law ScaleAgain: its walk.
-/
import Derived.Test.YtfjkiemjmnnbkaaGreatDoorLAg2
namespace Go.Proofs.YtfjkiemjmnnbkaaGreatDoor
open Go.RowKit Kr
set_option linter.unusedSimpArgs false

set_option maxRecDepth 100000 in
set_option maxHeartbeats 8000000 in
theorem l04ag_any_last : l04ag_any_c2.val := by
  intro ts n ws by_ w q0 cp0 qw cw qb cb HB HWS HWB HBY HBB HCD hn8 HRDY h0 hb0 HN HNE HBAY HRT i9_1_1 ts' qS cS qT cT i9_1_2 A hwA a0 m0 m1 m2 m3 m4 m5 m6 l1 l2 hnl hnu D H2 HBA HTA HDB HDT HDL wr u13 u14 u15 u16 u55 u56 u57 u58 u59 u60 u61 u62 u63 u64 u65 u66 u67 u68 u69 u70 u71 u72 u73 u74 u75 u76 u77 u78 u79 u80 u81 u82 u83 u84 u85 u86 u87 u88 u89 u90 u91 u92 u93 u94 u95 u96 u97 u98 u99 u100 u101 u102 u103 u104 u105 u106 u107 u108 k v0 v1 hk HGA hge hkn hd0 i9_2_1 i9_2_2 i9_2_3 i9_2_4 i9_2_5 i9_2_6
  have hk6 : k ≤ 6 := by omega
  clear hkn
  have hI := HGA.out
  have hD0 : 0 < D.length := by rw [HDL.out]; exact hnl
  obtain ⟨K, S, mm, rest, e1, e2, e3, e4, er, eag, eo, hK0⟩ := ag_all HDB.out HDT.out hD0 by_ ws hk6 HN.out
  have HI9 := Lib.hid hI.ext
  have g0 := ag_gear HDB.out hD0 by_ ws 0 k hI.r0
  have g1 := ag_gear HDB.out hD0 by_ ws 1 k hI.r1
  have hbw := HBA.out.mono hI.ext
  have hcw := HCD.out.mono (hwA.trans hI.ext)
  have o := hI.o
  have p0 := LaysAs.cell o 0 _ rfl
  have p1 := LaysAs.cell o 1 _ rfl
  have p2 := LaysAs.cell o 2 _ rfl
  have p3 := LaysAs.cell o 3 _ rfl
  have p4 := LaysAs.cell o 4 _ rfl
  have p5 := LaysAs.cell o 5 _ rfl
  have p6 := LaysAs.cell o 6 _ rfl
  have p7 := LaysAs.cell o 7 _ rfl
  have p8 := LaysAs.cell o 8 _ rfl
  have p9 := LaysAs.cell o 9 _ rfl
  have p10 := LaysAs.cell o 10 _ rfl
  have p11 := LaysAs.cell o 11 _ rfl
  have p12 := LaysAs.cell o 12 _ rfl
  have p13 := LaysAs.cell o 13 _ rfl
  have p14 := LaysAs.cell o 14 _ rfl
  have p15 := LaysAs.cell o 15 _ rfl
  have z0 := hI.ext.cell a0
  have r0 := hI.ext.cell m0
  have r1 := hI.ext.cell m1
  have r2 := hI.ext.cell m2
  have r3 := hI.ext.cell m3
  have r4 := hI.ext.cell m4
  have r5 := hI.ext.cell m5
  have r6 := hI.ext.cell m6
  have lp := Lays.of_cell p0
  have lq := Lays.of_cell z0
  have lr := Lays.of_cell r0
  have hal : Tryz.prog.arrayLen 79 = 2 := by kernel_rfl
  have hT : ts'.map Prod.fst = drawB D := H2.out
  have A1 := fun (W : World) (hE : wr.Exts W) => scale_Again_any ts' _ (loadG (ldx D by_ ws 0 k)) _ _ _ (loadG (ldx D by_ ws 1 k)) _ _ _ n W (hbw.mono hE) (g0.mono hE) (g1.mono hE)
  have A2 := fun (W : World) (hE : wr.Exts W) => scale_Again_any ts' _ (loadG (ldx D by_ ws 1 k)) _ _ _ (loadG (ldx D by_ ws 0 k)) _ _ _ n W (hbw.mono hE) (g1.mono hE) (g0.mono hE)
  have A3 := fun (W : World) (hE : wr.Exts W) => scale_Again_any ts' _ (loadG (ldx D by_ ws 0 k)) _ _ _ (loadG (ldx D by_ ws 0 k)) _ _ _ n W (hbw.mono hE) (g0.mono hE) (g0.mono hE)
  have J1 := fun (W : World) (hE : wr.Exts W) => scale_Judge_any ts' _ (loadG (ldx D by_ ws 0 k)) _ _ _ n W (hbw.mono hE) (g0.mono hE) (hcw.mono hE)
  simp only [hT, e1, e2, e3, e4] at A1 A2 A3 J1
  dsimp only [loadG] at A1 A2 A3 J1
  obtain ⟨x1, x2, x3, x4, rfl⟩ : ∃ x1 x2 x3 x4, rest = [x1, x2, x3, x4] := by
    rcases rest with _ | ⟨x1, _ | ⟨x2, _ | ⟨x3, _ | ⟨x4, _ | _⟩⟩⟩⟩ <;> simp at er
    exact ⟨_, _, _, _, rfl⟩
  clear er e1 e2 e3 e4 hI o g0 g1 hbw hcw hge hd0 hT
  have HA1 := Lib.hid A1
  clear A1
  have HA2 := Lib.hid A2
  clear A2
  have HA3 := Lib.hid A3
  clear A3
  have HJ1 := Lib.hid J1
  clear J1
  have HAG := Lib.hid eag
  clear eag
  have HEO := Lib.hid eo
  clear eo
  clear HGA
  go_upto_region 24 with (first
    | (go_at_call 35; (first | (with_reducible refine (HA1.out _ exq).mono ?_) | (with_reducible refine (HA2.out _ exq).mono ?_)); rintro e w' ⟨rfl, X1, rfl⟩)
    | (go_at_call 32; refine (HJ1.out _ exq).mono ?_; rintro e w' ⟨vj, rfl, hj9, X6, rfl⟩; obtain ⟨qj, cj, rfl⟩ := hj9.len; have HJJ := Lib.hid hj9; clear hj9; simp only [List.length_cons, List.length_nil, Nat.zero_add, Nat.reduceAdd]))
  generalize hV : World.ext _ X6 = V
  have hEV : wr.Exts V := by rw [← hV]; exact exq
  have hJV := HJJ.out.mono (w' := V) (by rw [← hV]; exact World.Exts.refl _)
  have y0 := hEV.cell p0
  have y1 := hEV.cell p1
  have y2 := hEV.cell p2
  have y3 := hEV.cell p3
  have y4 := hEV.cell p4
  have y5 := hEV.cell p5
  have y6 := hEV.cell p6
  have y7 := hEV.cell p7
  have s0 := hEV.cell z0
  have s1 := hEV.cell r0
  have s2 := hEV.cell r1
  have s3 := hEV.cell r2
  have s4 := hEV.cell r3
  have s5 := hEV.cell r4
  have s6 := hEV.cell r5
  have s7 := hEV.cell r6
  clear lp lq lr p0 p1 p2 p3 p4 p5 p6 p7 p8 p9 p10 p11 p12 p13 p14 p15 z0 r0 r1 r2 r3 r4 r5 r6 hV
  have lp := Lays.of_cell y0
  have lq := Lays.of_cell s0
  have lr := Lays.of_cell s1
  obtain ⟨qk, bk, ok, ck, e, hmk, hpk, hck⟩ := hJV.ex
  simp only [Value.slice.injEq] at e
  obtain ⟨rfl, -, rfl⟩ := e
  obtain ⟨rfl, hlk⟩ := hpk (by simp)
  have f0 := hck 0 S rfl 0 _ rfl
  simp only [Nat.mul_one, Nat.add_zero] at f0
  clear hck hpk HJJ hJV
  have HEV := Lib.hid hEV
  clear hEV
  have hag : agreesB K (inL [n.total] (sumW ws k)) = true := by
    have hin : inL [n.total] (sumW ws k) = inb n.total.lo n.total.hi (sumW ws k) := by simp [inL, inb]
    rw [hin]
    exact HAG.out
  go_upto_region 26 with (first
    | (go_at_call 33; refine (l04_in_any [n.total] _ (sumW ws k) _ (row_span1 _ n.total _ (by simp))).mono ?_; rintro e w' ⟨rfl, X7, rfl⟩)
    | (go_at_call 34; refine (l04_right_any K _ _ hK0).mono ?_; rw [hag]; rintro e w' ⟨rfl, X8, rfl⟩))
  have A4 := fun (W : World) (hE : V.Exts W) => HA3.out W (HEV.out.trans hE)
  have HA4 := Lib.hid A4
  clear A4
  have hEW := hwA.trans (HI9.out.trans HEV.out)
  by_cases hS : S = 1
  · subst hS
    clear hag HEO
    go_wp2_with (go_at_call 35; refine (HA4.out _ exq).mono ?_; rintro e w' ⟨rfl, X9, rfl⟩)
    go_ret
    exact ⟨rfl, (exf hEW)⟩
  · have hKS : K = S := HEO.out.resolve_left hS
    subst hKS
    have hs1 : (K == 1) = false := by simpa using hS
    clear hag HEO hS
    go_wp2_with (go_at_call 35; refine (HA4.out _ exq).mono ?_; rintro e w' ⟨rfl, X9, rfl⟩)
    go_ret
    exact ⟨rfl, (exf hEW)⟩
theorem l04ag_any (ts : List (Kr.Scale × Value)) (v : Value) (n : Norm) (ws : List Int) (wv : Value) (by_ : List Int) (bv : Value) (w : World) (hrow : BayAt w v ts) (hws : IsRow (fun x : Int => [.int .u32 x]) 1 w wv ws) (hwb : ∀ x ∈ ws, 0 ≤ x ∧ x ≤ 4294967295)
    (hby : IsRow (fun x : Int => [.int .u32 x]) 1 w bv by_) (hbb : ∀ x ∈ by_, 0 ≤ x ∧ x ≤ 4294967295) (hcd : CondsAt w) :
    Calls Tryz.prog 5 #[.agg #[v], .agg #[.int .i64 n.total.lo, .int .i64 n.total.hi, .int .i64 n.added, .int .i64 n.warm, .int .i64 n.hard.lo, .int .i64 n.hard.hi, .bool n.stamp], wv, bv] w fun e w' => e = .returned (.bool true) ∧ w.Exts w' :=
  (l04ag_any_c1.property (l04ag_any_c2.property l04ag_any_last)) ts v n ws wv by_ bv w hrow hws hwb hby hbb hcd
end Go.Proofs.YtfjkiemjmnnbkaaGreatDoor
