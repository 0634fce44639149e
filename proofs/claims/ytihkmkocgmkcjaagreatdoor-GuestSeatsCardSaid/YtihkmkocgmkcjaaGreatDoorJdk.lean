/-
  Several texts in one: see the heads of its parts.
-/
import Derived.Test.YtihkmkocgmkcjaaGreatDoorJb
import Derived.Test.YtihkmkocgmkcjaaGreatDoorPl
import Derived.Test.YtihkmkocgmkcjaaGreatDoorTf
import Derived.Test.YtihkmkocgmkcjaaGreatDoorSa
import Derived.Test.YtihkmkocgmkcjaaGreatDoorBt
import Derived.Test.YtihkmkocgmkcjaaGreatDoorRx
import Derived.Test.YtihkmkocgmkcjaaGreatDoorTp
import Derived.Maps.OwnSet

/-
  Walks of the reference: what is judged.
-/
namespace Go.Proofs.YtihkmkocgmkcjaaGreatDoor
open Go.RowKit Kr
set_option linter.unusedSimpArgs false

/-- What the region of the five parts leaves. -/
def PartsAt5 (a b c d : Int) (h : Span) (i : Nat) (W : World) (v : Value) : Prop :=
  (i = 3 → v = .int .u8 a) ∧ (i = 9 → v = .int .u8 b) ∧ (i = 12 → ∃ q k, v = .slice q 1 k ∧ IsRow (fun t : Kr.Span => [.int .i64 t.lo, .int .i64 t.hi]) 2 W v [h]) ∧ (i = 15 → v = .int .u8 c) ∧ (i = 23 → v = .int .u8 d)
theorem PartsAt5.mono {a b c d : Int} {h : Span} {i : Nat} {W W' : World} {v : Value} (p : PartsAt5 a b c d h i W v) (hE : W.Exts W') : PartsAt5 a b c d h i W' v :=
  ⟨p.1, p.2.1, fun e => by obtain ⟨q, k, h1, h2⟩ := p.2.2.1 e; exact ⟨q, k, h1, h2.mono hE⟩, p.2.2.2.1, p.2.2.2.2⟩
theorem row_sub {α : Type} {enc : α → List Value} {k : Nat} {w : World} {b o j : Nat} {x : α} (hlay : Lays w b) (hcs : ∀ m u, (enc x)[m]? = some u → w.cell? ⟨b, o + j * k + m, none⟩ = some u) (c : Nat) (hc : 1 ≤ c ∧ c ≤ 9223372036854775807) :
    IsRow enc k w (.slice (some ⟨b, o + j * k, none⟩) 1 c) [x] :=
  ⟨_, b, o + j * k, c, rfl, hc, fun _ => ⟨rfl, hlay⟩, fun i y hy m u hu => by
    match i, hy with
    | 0, hy =>
      simp at hy; subst hy
      rw [Nat.zero_mul, Nat.add_zero]
      exact hcs m u hu⟩
theorem row_five (w : World) (a b c d e : Int) (n : Nat) (hn : n = w.heap.size) : IsRow (fun x : Int => [.int .u8 x]) 1 (w.alloc (.cells #[.int .u8 a, .int .u8 b, .int .u8 c, .int .u8 d, .int .u8 e] 5)) (.slice (some ⟨n, 0, none⟩) 5 5) [a, b, c, d, e] := by
  have h : BlkAt (w.alloc (.cells ([.int .u8 a, .int .u8 b, .int .u8 c, .int .u8 d, .int .u8 e] : List Value).toArray 5)) n (([a, b, c, d, e] : List Int).flatMap fun x => [.int .u8 x]) := BlkAt.new w _ _ hn
  exact IsRow.of_blk (enc := fun x : Int => [.int .u8 x]) (k := 1) (xs := [a, b, c, d, e]) (fun _ => rfl) h ⟨by subst hn; simp⟩ (by simp)

set_option maxRecDepth 4000 in
set_option maxHeartbeats 4000000 in
theorem r04_Judge_any (ts : List (Kr.Scale × Value)) (v : Value) (g : Gear) (lv rv sv : Value) (n : Norm) (w : World) (hb : BayAt w v ts) (hg : GearAt w (g, lv, rv, sv)) :
    Calls Tryz.prog 40 #[.agg #[v], .agg #[lv, .int .i64 g.added, .int .i64 g.base, .int .i64 g.jitter, rv, sv, .int .i64 g.spread, .bool g.stamp], .agg #[.int .i64 n.total.lo, .int .i64 n.total.hi, .int .i64 n.added, .int .i64 n.warm, .int .i64 n.hard.lo, .int .i64 n.hard.hi, .bool n.stamp]] w fun e w' => ∃ vp, e = .returned (.tuple #[vp, .int .u8 (judgeR (ts.map Prod.fst) g n).1.2, .int .i64 (judgeR (ts.map Prod.fst) g n).2]) ∧ IsRow (fun x : Int => [.int .u8 x]) 1 w' vp (judgeR (ts.map Prod.fst) g n).1.1 ∧ w.Exts w' := by
  obtain ⟨p, cap, hv⟩ := hb.row.len
  subst hv
  have hl1 := hg.l
  have hl2 := hg.r
  have hl3 := hg.s
  dsimp only at hl1 hl2 hl3
  obtain ⟨p1, cap1, rfl⟩ := hl1.len
  obtain ⟨p2, cap2, rfl⟩ := hl2.len
  obtain ⟨p3, cap3, rfl⟩ := hl3.len
  have HG := Lib.hid hg
  clear hg
  have HB := Lib.hid hb
  clear hb
  clear hl1 hl2 hl3
  by_cases hz : check (ts.map Prod.fst) g = 0
  · obtain ⟨hz1, hz2⟩ := check_zero hz
    have hbare := gearOk_bare hz2
    have hok := check_ok hz1 hz2
    have hrt : ∀ x ∈ ts, right x.1 = true := fun x hx => hok.rt _ (List.mem_map.2 ⟨x, hx, rfl⟩)
    have hsh : ∀ x ∈ ts, ∀ l ∈ g.loads, l.scale = x.1.id → -2000000 ≤ l.shown ∧ l.shown ≤ 2000000 := fun x hx => hok.sh _ (List.mem_map.2 ⟨x, hx, rfl⟩)
    have hn : ts.length ≤ 4 := by have := hok.few; rwa [List.length_map] at this
    have h6 := hok.l6
    have had := hok.ad
    have HRT := Lib.hid hrt
    clear hrt
    have HSH := Lib.hid hsh
    clear hsh
    clear hok hz1 hz2
    cases hnb : normB n
    · rw [judge_norm hz hnb]
      have HN := Lib.hid hnb
      clear hnb
      have HE := Lib.hid hz
      clear hz
      go_enter Tryz.func40, Tryz.ntmps40
      go_wp2_with (first
        | (go_at_call 66; refine (r04_Check_any ts _ g _ _ _ _ (HB.out.mono exq) (HG.out.l.mono exq) (HG.out.r.mono exq) (HG.out.s.mono exq)).mono ?_; rintro e w' ⟨rfl, X2, rfl⟩; rw [HE.out])
        | (go_at_call 67; refine (r04_Norm_any n _).mono ?_; rintro e w' ⟨rfl, X3, rfl⟩; rw [HN.out])
        | (go_at_call 68; refine (r04_totals_any ts _ g _ _ _ _ (HB.out.mono exq) (HG.out.mono exq) hn HRT.out h6 HSH.out had).mono ?_; rw [HD.out]; rintro e w' ⟨vt, rfl, ht, X4, rfl⟩; obtain ⟨qt, ct, rfl⟩ := ht.len; have HT := Lib.hid ht; clear ht)
        | (go_at_call 69; refine (r04_Hard_any g _ _ _ _ (HG.out.mono exq)).mono ?_; rw [HH.out]; rintro e w' ⟨rfl, X5, rfl⟩)
        | (go_at_call 70; refine (r04_Warm_any g _ _ _ _ (HG.out.mono exq)).mono ?_; rw [HWM.out]; rintro e w' ⟨vw, rfl, hw, X6, rfl⟩; obtain ⟨qw, cw, rfl⟩ := hw.len; have HW := Lib.hid hw; clear hw))
      refine bodyPost_ret (v := .tuple #[.slice none 0 0, .int .u8 0, .int .i64 42]) (by simp [results, Tryz.results40, go_sem]) rfl ?_
      exact ⟨_, rfl, IsRow.nil _, exq⟩
    generalize hd : totals (ts.map Prod.fst) g = T
    rcases T with _ | ⟨s0, sr⟩
    · rw [judge_none hz hnb hd]
      have HN := Lib.hid hnb
      clear hnb
      have HE := Lib.hid hz
      clear hz
      have HD := Lib.hid hd
      clear hd
      go_enter Tryz.func40, Tryz.ntmps40
      go_wp2_with (first
        | (go_at_call 66; refine (r04_Check_any ts _ g _ _ _ _ (HB.out.mono exq) (HG.out.l.mono exq) (HG.out.r.mono exq) (HG.out.s.mono exq)).mono ?_; rintro e w' ⟨rfl, X2, rfl⟩; rw [HE.out])
        | (go_at_call 67; refine (r04_Norm_any n _).mono ?_; rintro e w' ⟨rfl, X3, rfl⟩; rw [HN.out])
        | (go_at_call 68; refine (r04_totals_any ts _ g _ _ _ _ (HB.out.mono exq) (HG.out.mono exq) hn HRT.out h6 HSH.out had).mono ?_; rw [HD.out]; rintro e w' ⟨vt, rfl, ht, X4, rfl⟩; obtain ⟨qt, ct, rfl⟩ := ht.len; have HT := Lib.hid ht; clear ht)
        | (go_at_call 69; refine (r04_Hard_any g _ _ _ _ (HG.out.mono exq)).mono ?_; rw [HH.out]; rintro e w' ⟨rfl, X5, rfl⟩)
        | (go_at_call 70; refine (r04_Warm_any g _ _ _ _ (HG.out.mono exq)).mono ?_; rw [HWM.out]; rintro e w' ⟨vw, rfl, hw, X6, rfl⟩; obtain ⟨qw, cw, rfl⟩ := hw.len; have HW := Lib.hid hw; clear hw))
      refine bodyPost_ret (v := .tuple #[.slice none 0 0, .int .u8 0, .int .i64 6]) (by simp [results, Tryz.results40, go_sem]) rfl ?_
      exact ⟨_, rfl, IsRow.nil _, exq⟩
    have hwm : warm g = (g.runners.map (warmAt g), 0) := by unfold warm; rw [if_pos hbare]
    rcases hard_bare hbare with ⟨hh0, hh1⟩ | hh
    · rw [judge_all hz hnb (by rw [hd]; simp) hh0]
      have hP : partsJ (ts.map Prod.fst) g n = [knownR (s0 :: sr) n.total, sureR (decide (g.added ≤ n.added)), warmOf g n.warm, knownR [(hard g).1] n.hard, sureR (g.stamp || !n.stamp)] := by unfold partsJ; rw [hd]
      have hW : warmOf g n.warm = (g.runners.map (warmAt g)).foldl (warmStep n.warm) 2 := rfl
      rw [hP]
      rw [hW]
      have hhp : hard g = ((hard g).1, 0) := by rw [← hh0]
      generalize (hard g).1 = hd1 at hhp hh1 ⊢
      have hlen : (g.runners.map (warmAt g)).length = g.runners.length := List.length_map ..
      generalize g.runners.map (warmAt g) = L at hwm ⊢
      have HN := Lib.hid hnb
      clear hnb
      have HE := Lib.hid hz
      clear hz
      have HD := Lib.hid hd
      clear hd
      have HH := Lib.hid hhp
      clear hhp
      have HWM := Lib.hid hwm
      clear hwm
      clear hP hW hh0 hlen hbare
      go_enter Tryz.func40, Tryz.ntmps40
      go_wp2_with (first
        | (go_at_call 66; refine (r04_Check_any ts _ g _ _ _ _ (HB.out.mono exq) (HG.out.l.mono exq) (HG.out.r.mono exq) (HG.out.s.mono exq)).mono ?_; rintro e w' ⟨rfl, X2, rfl⟩; rw [HE.out])
        | (go_at_call 67; refine (r04_Norm_any n _).mono ?_; rintro e w' ⟨rfl, X3, rfl⟩; rw [HN.out])
        | (go_at_call 68; refine (r04_totals_any ts _ g _ _ _ _ (HB.out.mono exq) (HG.out.mono exq) hn HRT.out h6 HSH.out had).mono ?_; rw [HD.out]; rintro e w' ⟨vt, rfl, ht, X4, rfl⟩; obtain ⟨qt, ct, rfl⟩ := ht.len; have HT := Lib.hid ht; clear ht)
        | (go_at_call 69; refine (r04_Hard_any g _ _ _ _ (HG.out.mono exq)).mono ?_; rw [HH.out]; rintro e w' ⟨rfl, X5, rfl⟩)
        | (go_at_call 70; refine (r04_Warm_any g _ _ _ _ (HG.out.mono exq)).mono ?_; rw [HWM.out]; rintro e w' ⟨vw, rfl, hw, X6, rfl⟩; obtain ⟨qw, cw, rfl⟩ := hw.len; have HW := Lib.hid hw; clear hw))
      have hK : LaysAs (World.ext _ X6) (World.ext _ X5).heap.size (.cells [.int .i64 hd1.lo, .int .i64 hd1.hi].toArray 28 (0, 0)) := (LaysAs.new (World.ext _ X5) (.cells #[.int .i64 hd1.lo, .int .i64 hd1.hi] 28)).exts ⟨X6, rfl⟩
      have hEV : w.Exts (World.ext _ X6) := exq
      have hTV : IsRow (fun t : Kr.Span => [.int .i64 t.lo, .int .i64 t.hi]) 2 (World.ext _ X6) (.slice qt (sr.length + 1) ct) (s0 :: sr) := HT.out.mono exq
      have b0 : (World.ext _ X6).cell? ⟨w.heap.size, 0, none⟩ = some (.slice p ts.length cap) := by simp [go_sem]
      have b10 : (World.ext _ X6).cell? ⟨w.heap.size + 1, 0, none⟩ = some (.slice p1 g.loads.length cap1) := by simp [go_sem]
      have b11 : (World.ext _ X6).cell? ⟨w.heap.size + 1, 1, none⟩ = some (.int .i64 g.added) := by simp [go_sem]
      have b12 : (World.ext _ X6).cell? ⟨w.heap.size + 1, 2, none⟩ = some (.int .i64 g.base) := by simp [go_sem]
      have b13 : (World.ext _ X6).cell? ⟨w.heap.size + 1, 3, none⟩ = some (.int .i64 g.jitter) := by simp [go_sem]
      have b14 : (World.ext _ X6).cell? ⟨w.heap.size + 1, 4, none⟩ = some (.slice p2 g.runners.length cap2) := by simp [go_sem]
      have b15 : (World.ext _ X6).cell? ⟨w.heap.size + 1, 5, none⟩ = some (.slice p3 g.strokes.length cap3) := by simp [go_sem]
      have b16 : (World.ext _ X6).cell? ⟨w.heap.size + 1, 6, none⟩ = some (.int .i64 g.spread) := by simp [go_sem]
      have b17 : (World.ext _ X6).cell? ⟨w.heap.size + 1, 7, none⟩ = some (.bool g.stamp) := by simp [go_sem]
      have b20 : (World.ext _ X6).cell? ⟨w.heap.size + 1 + 1, 0, none⟩ = some (.int .i64 n.total.lo) := by simp [go_sem]
      have b21 : (World.ext _ X6).cell? ⟨w.heap.size + 1 + 1, 1, none⟩ = some (.int .i64 n.total.hi) := by simp [go_sem]
      have b22 : (World.ext _ X6).cell? ⟨w.heap.size + 1 + 1, 2, none⟩ = some (.int .i64 n.added) := by simp [go_sem]
      have b23 : (World.ext _ X6).cell? ⟨w.heap.size + 1 + 1, 3, none⟩ = some (.int .i64 n.warm) := by simp [go_sem]
      have b24 : (World.ext _ X6).cell? ⟨w.heap.size + 1 + 1, 4, none⟩ = some (.int .i64 n.hard.lo) := by simp [go_sem]
      have b25 : (World.ext _ X6).cell? ⟨w.heap.size + 1 + 1, 5, none⟩ = some (.int .i64 n.hard.hi) := by simp [go_sem]
      have b26 : (World.ext _ X6).cell? ⟨w.heap.size + 1 + 1, 6, none⟩ = some (.bool n.stamp) := by simp [go_sem]
      generalize (World.ext _ X5).heap.size = K at *
      generalize World.ext _ X6 = V at *
      have k0 := LaysAs.cell hK 0 _ rfl
      have k1 := LaysAs.cell hK 1 _ rfl
      have n0 := Lays.of_cell b0
      have n1 := Lays.of_cell b10
      have n2 := Lays.of_cell b20
      have n3 := Lays.of_cell k0
      obtain ⟨pw, bw, ow, capw, ew, hmw, hpw, hcw⟩ := HW.out.ex
      cases ew
      have HTV := Lib.hid hTV
      clear hTV
      have HPW := Lib.hid hpw
      clear hpw
      have HCW := Lib.hid hcw
      clear hcw
      clear hK HT HW
      go_loopw [13, 16] (fun wu i wr => ∃ j : Nat, j ≤ L.length ∧ i = .int .i64 j ∧ wu = .int .u8 ((L.take j).foldl (warmStep n.warm) 2) ∧ V.Exts wr) (fun _ i _ => L.length - (intOf i).toNat)
      case atStart => exact ⟨0, Nat.zero_le _, rfl, rfl, World.Exts.refl _⟩
      case round =>
        obtain ⟨j, hj, rfl, rfl, hE⟩ := hrel
        obtain ⟨X, rfl⟩ := hE
        by_cases hlt : j < L.length
        · --[L1
          obtain ⟨rfl, hlw⟩ := HPW.out (by omega)
          obtain ⟨x, hx⟩ := some_of_lt hlt
          have hcs := HCW.out j x hx
          have hrx : IsRow (fun t : Kr.Span => [.int .i64 t.lo, .int .i64 t.hi]) 2 V (.slice (some ⟨bw, ow + j * 2, none⟩) 1 (cw - j)) [x] := row_sub (enc := fun t : Kr.Span => [.int .i64 t.lo, .int .i64 t.hi]) (k := 2) hlw hcs (cw - j) (by omega)
          have hnx : (L.take (j + 1)).foldl (warmStep n.warm) 2 = min ((L.take j).foldl (warmStep n.warm) 2) (knownR [x] ⟨-9000, n.warm⟩) := by rw [take_snoc hx, List.foldl_append]; rfl
          generalize (L.take j).foldl (warmStep n.warm) 2 = le at hnx ⊢
          have HNX := Lib.hid hnx
          clear hnx
          have HRX := Lib.hid hrx
          clear hrx
          clear hx hcs
          go_wp2_with fail
          refine wp_region_ext_tail 10 (by kernel_rfl) (by kernel_rfl) ?_
          simp only [List.take_succ_cons, List.take_zero, List.drop_succ_cons, List.drop_zero]
          repeat (go_big_quiet_step ((go_at_call 71; exact Calls.in_ext (r04_known_any [x] ⟨-9000, n.warm⟩ _ _ (HRX.out.mono exq)))))
          refine wpQuiet_nil ?_
          rintro _ ⟨X, rfl⟩
          go_wp2_with fail
          go_roundw
          case rel => exact ⟨j + 1, by omega, by go_num, by rw [HNX.out], exq⟩
          case measure => simp [intOf]; omega
        · have hjn : j = L.length := by omega
          have hfw : L.take j = L := by rw [hjn, List.take_length]
          rw [hfw]
          generalize hwu : L.foldl (warmStep n.warm) 2 = wu
          have HWU := Lib.hid hwu
          clear hwu
          clear hjn hfw
          go_wp2_with fail
          cases hst : g.stamp
          all_goals
            refine wp_region_calls 24 (fun i => i == 3 || i == 9 || i == 12 || i == 15 || i == 23) (fun c v W => PartsAt5 (knownR (s0 :: sr) n.total) (sureR (decide (g.added ≤ n.added))) (knownR [hd1] n.hard) (sureR (g.stamp || !n.stamp)) hd1 c W v) (by kernel_rfl) (fun ν => by kernel_rfl) (by kernel_rfl) (by kernel_rfl) (by kernel_rfl) (by kernel_rfl) ?mono ?_
            rotate_left 1
            apply Exists.intro
            refine ⟨fun ν L hL => ?_, fun c oc hc hU ν W hE hΦ => ?_, fun ν W hE hΦ => ?_⟩
            · simp only [modU, cOp, List.mapIdx_cons, List.mapIdx_nil, Nat.zero_add, Nat.reduceAdd, Nat.reduceBEq, Bool.or_false, Bool.false_or, Bool.or_true, Bool.true_or, Bool.or_self, Bool.false_eq_true, if_false, if_true, List.take_succ_cons, List.take_zero]
              repeat (go_big_quiet_step (fail))
              exact wpQuiet_nil hL
            · simp at hU
              have hVW : V.Exts W := World.Exts.trans exq hE
              rcases hU with (((rfl | rfl) | rfl) | rfl) | rfl
              · simp only [List.getElem?_cons_succ, List.getElem?_cons_zero, Option.some.injEq] at hc
                subst hc
                refine Oper.gives_fn rfl rfl rfl (enters_of Tryz.func71 (by kernel_rfl) rfl) ?_ rfl
                refine (r04_known_any (s0 :: sr) n.total _ W (HTV.out.mono hVW)).mono ?_
                rintro e W' ⟨rfl, h2⟩
                exact ⟨_, rfl, h2, fun _ => rfl, fun e => (by cases e), fun e => (by cases e), fun e => (by cases e), fun e => (by cases e)⟩
              · simp only [List.getElem?_cons_succ, List.getElem?_cons_zero, Option.some.injEq] at hc
                subst hc
                refine Oper.gives_fn rfl rfl rfl (enters_of Tryz.func72 (by kernel_rfl) rfl) ?_ rfl
                refine (r04_told_any (decide (g.added ≤ n.added)) W).mono ?_
                rintro e W' ⟨rfl, h2⟩
                exact ⟨_, rfl, h2, fun e => (by cases e), fun _ => rfl, fun e => (by cases e), fun e => (by cases e), fun e => (by cases e)⟩
              · simp only [List.getElem?_cons_succ, List.getElem?_cons_zero, Option.some.injEq] at hc
                subst hc
                exact .inr ⟨.slice (some ⟨W.heap.size, 0, none⟩) 1 1, W.alloc (.cells #[.int .i64 hd1.lo, .int .i64 hd1.hi] 28), by kernel_rfl, exq, fun e => (by cases e), fun e => (by cases e), fun _ => ⟨_, _, rfl, row_span1 _ _ _ rfl⟩, fun e => (by cases e), fun e => (by cases e)⟩
              · simp only [List.getElem?_cons_succ, List.getElem?_cons_zero, Option.some.injEq] at hc
                subst hc
                obtain ⟨q12, k12, e12, h12⟩ := (hΦ 12 rfl ⟨⟨12, .data⟩, by simp, rfl, rfl⟩).2.2.1 rfl
                refine Oper.gives_fn rfl rfl rfl (enters_of Tryz.func71 (by kernel_rfl) rfl) ?_ rfl
                refine (r04_known_any [hd1] n.hard (ν 12) W h12).mono ?_
                rintro e W' ⟨rfl, h2⟩
                exact ⟨_, rfl, h2, fun e => (by cases e), fun e => (by cases e), fun e => (by cases e), fun _ => rfl, fun e => (by cases e)⟩
              · simp only [List.getElem?_cons_succ, List.getElem?_cons_zero, Option.some.injEq] at hc
                subst hc
                refine Oper.gives_fn rfl rfl rfl (enters_of Tryz.func72 (by kernel_rfl) rfl) ?_ rfl
                have hcon := r04_told_any (g.stamp || !n.stamp) W
                rw [hst] at hcon
                refine hcon.mono ?_
                rintro e W' ⟨rfl, h2⟩
                exact ⟨_, rfl, h2, fun e => (by cases e), fun e => (by cases e), fun e => (by cases e), fun e => (by cases e), fun _ => (by rw [hst])⟩
            rotate_left 1
            case mono => exact fun c v W W' h hE => h.mono hE
            have hVW : V.Exts W := World.Exts.trans exq hE
            obtain ⟨a1, e3, ha1⟩ : ∃ a, ν 3 = .int .u8 a ∧ knownR (s0 :: sr) n.total = a := ⟨_, (hΦ 3 (by decide) rfl).1 rfl, rfl⟩
            obtain ⟨a2, e9, ha2⟩ : ∃ a, ν 9 = .int .u8 a ∧ sureR (decide (g.added ≤ n.added)) = a := ⟨_, (hΦ 9 (by decide) rfl).2.1 rfl, rfl⟩
            obtain ⟨a4, e15, ha4⟩ : ∃ a, ν 15 = .int .u8 a ∧ knownR [hd1] n.hard = a := ⟨_, (hΦ 15 (by decide) rfl).2.2.2.1 rfl, rfl⟩
            obtain ⟨a5, e23, ha5⟩ : ∃ a, ν 23 = .int .u8 a ∧ sureR (g.stamp || !n.stamp) = a := ⟨_, (hΦ 23 (by decide) rfl).2.2.2.2 rfl, rfl⟩
            simp only [List.drop_succ_cons, List.drop_zero]
            rw [e3, e9, e15, e23]
            clear hΦ e3 e9 e15 e23
            have HA1 := Lib.hid ha1
            clear ha1
            have HA2 := Lib.hid ha2
            clear ha2
            have HA4 := Lib.hid ha4
            clear ha4
            have HA5 := Lib.hid ha5
            clear ha5
            have hR5 := row_five W a1 a2 wu a4 a5 _ rfl
            have hP5 : ∃ P : List Int, P = [a1, a2, wu, a4, a5] := ⟨_, rfl⟩
            obtain ⟨P, hP⟩ := hP5
            have hPl : P.length = 5 := by rw [hP]; rfl
            rw [← hP] at hR5
            obtain ⟨pr, br, orr, capr, er, hmr, hpr, hcr⟩ := hR5.ex
            rw [hPl] at er
            cases er
            obtain ⟨ebr, hlr⟩ := hpr (by omega)
            cases ebr
            have HP := Lib.hid hP
            clear hP
            have HR5 := Lib.hid hR5
            clear hR5
            have HCR := Lib.hid hcr
            clear hcr
            have HPL := Lib.hid hPl
            clear hPl
            clear hpr hmr
            have hE5 : w.Exts (W.alloc (.cells #[.int .u8 a1, .int .u8 a2, .int .u8 wu, .int .u8 a4, .int .u8 a5] 5)) := (hEV.trans hVW).alloc _
            go_wp2_with fail
            generalize W.alloc (.cells #[.int .u8 a1, .int .u8 a2, .int .u8 wu, .int .u8 a4, .int .u8 a5] 5) = V5 at *
            go_loopw [18, 19] (fun wh i wr => ∃ k : Nat, k ≤ 5 ∧ i = .int .i64 k ∧ wh = .int .u8 ((P.take k).foldl min 2) ∧ V5.Exts wr) (fun _ i _ => 5 - (intOf i).toNat)
            case atStart => exact ⟨0, Nat.zero_le _, rfl, rfl, World.Exts.refl _⟩
            case round =>
              obtain ⟨k, hk, rfl, rfl, hE9⟩ := hrel
              obtain ⟨X9, rfl⟩ := hE9
              have hPL := HPL.out
              by_cases hlt : k < 5
              · obtain ⟨x, hx⟩ := some_of_lt (xs := P) (k := k) (by omega)
                have hcs := HCR.out k x hx
                have c0 := hcs 0 _ rfl
                simp only [Nat.mul_one, Nat.add_zero] at c0
                rw [Nat.zero_add] at c0
                have hnx : (P.take (k + 1)).foldl min 2 = min ((P.take k).foldl min 2) x := by rw [take_snoc hx, List.foldl_append]; rfl
                generalize (P.take k).foldl min 2 = m at hnx ⊢
                have HNX := Lib.hid hnx
                clear hnx
                clear hx hcs hPL
                rcases Int.lt_trichotomy m x with hc1 | hc1 | hc1
                all_goals
                  go_wp2_with fail
                  go_roundw
                  case rel => exact ⟨k + 1, by omega, by go_num, by rw [HNX.out]; try exact congrArg (Value.int .u8) (by omega), exq⟩
                  case measure => (simp [intOf]; try omega)
              · have hkn : P.take k = P := by rw [List.take_of_length_le (by omega)]
                rw [hkn]
                clear hkn hPL
                go_wp2_with fail
                refine bodyPost_ret (v := .tuple #[.slice (some ⟨W.heap.size, 0, none⟩) 5 5, .int .u8 (P.foldl min 2), .int .i64 0]) (by simp [results, Tryz.results40, go_sem]) rfl ?_
                have hPP : [knownR (s0 :: sr) n.total, sureR (decide (g.added ≤ n.added)), L.foldl (warmStep n.warm) 2, knownR [hd1] n.hard, sureR (g.stamp || !n.stamp)] = P := by rw [HP.out, HA1.out, HA2.out, HA4.out, HWU.out, HA5.out]
                rw [hPP]
                exact ⟨_, rfl, HR5.out.mono exq, (exf hE5)⟩
    · rw [judge_bad hz hnb (by rw [hd]; simp) (by rw [hh]; decide), hh]
      have HN := Lib.hid hnb
      clear hnb
      have HE := Lib.hid hz
      clear hz
      have HD := Lib.hid hd
      clear hd
      have HH := Lib.hid hh
      clear hh
      clear hwm hbare
      go_enter Tryz.func40, Tryz.ntmps40
      go_wp2_with (first
        | (go_at_call 66; refine (r04_Check_any ts _ g _ _ _ _ (HB.out.mono exq) (HG.out.l.mono exq) (HG.out.r.mono exq) (HG.out.s.mono exq)).mono ?_; rintro e w' ⟨rfl, X2, rfl⟩; rw [HE.out])
        | (go_at_call 67; refine (r04_Norm_any n _).mono ?_; rintro e w' ⟨rfl, X3, rfl⟩; rw [HN.out])
        | (go_at_call 68; refine (r04_totals_any ts _ g _ _ _ _ (HB.out.mono exq) (HG.out.mono exq) hn HRT.out h6 HSH.out had).mono ?_; rw [HD.out]; rintro e w' ⟨vt, rfl, ht, X4, rfl⟩; obtain ⟨qt, ct, rfl⟩ := ht.len; have HT := Lib.hid ht; clear ht)
        | (go_at_call 69; refine (r04_Hard_any g _ _ _ _ (HG.out.mono exq)).mono ?_; rw [HH.out]; rintro e w' ⟨rfl, X5, rfl⟩)
        | (go_at_call 70; refine (r04_Warm_any g _ _ _ _ (HG.out.mono exq)).mono ?_; rw [HWM.out]; rintro e w' ⟨vw, rfl, hw, X6, rfl⟩; obtain ⟨qw, cw, rfl⟩ := hw.len; have HW := Lib.hid hw; clear hw))
      refine bodyPost_ret (v := .tuple #[.slice none 0 0, .int .u8 0, .int .i64 8]) (by simp [results, Tryz.results40, go_sem]) rfl ?_
      exact ⟨_, rfl, IsRow.nil _, exq⟩
  · rw [judge_err hz]
    have hc := check_three (ts.map Prod.fst) g
    rcases hc with hc | hc | hc
    · exact absurd hc hz
    · clear hz
      rw [hc]
      have HE := Lib.hid hc
      clear hc
      go_enter Tryz.func40, Tryz.ntmps40
      go_wp2_with (go_at_call 66; refine (r04_Check_any ts _ g _ _ _ _ (HB.out.mono exq) (HG.out.l.mono exq) (HG.out.r.mono exq) (HG.out.s.mono exq)).mono ?_; rintro e w' ⟨rfl, X2, rfl⟩; rw [HE.out])
      refine bodyPost_ret (v := .tuple #[.slice none 0 0, .int .u8 0, .int .i64 41]) (by simp [results, Tryz.results40, go_sem]) rfl ?_
      exact ⟨_, rfl, IsRow.nil _, exq⟩
    · clear hz
      rw [hc]
      have HE := Lib.hid hc
      clear hc
      go_enter Tryz.func40, Tryz.ntmps40
      go_wp2_with (go_at_call 66; refine (r04_Check_any ts _ g _ _ _ _ (HB.out.mono exq) (HG.out.l.mono exq) (HG.out.r.mono exq) (HG.out.s.mono exq)).mono ?_; rintro e w' ⟨rfl, X2, rfl⟩; rw [HE.out])
      refine bodyPost_ret (v := .tuple #[.slice none 0 0, .int .u8 0, .int .i64 40]) (by simp [results, Tryz.results40, go_sem]) rfl ?_
      exact ⟨_, rfl, IsRow.nil _, exq⟩
end Go.Proofs.YtihkmkocgmkcjaaGreatDoor

/-
  Plain laws: common numbers, step by step; whose error is told.
-/
namespace Kr

/-- The numbers that a span and others have. -/
def commonOne (s : Span) (b : List Span) : List Span := b.flatMap fun t => if max s.lo t.lo ≤ min s.hi t.hi then [⟨max s.lo t.lo, min s.hi t.hi⟩] else []
theorem commonL_snoc (a b : List Span) (s : Span) : commonL (a ++ [s]) b = commonL a b ++ commonOne s b := by
  unfold commonL
  rw [List.flatMap_append, List.flatMap_cons, List.flatMap_nil, List.append_nil]
  rfl
theorem commonOne_snoc (s : Span) (b : List Span) (t : Span) : commonOne s (b ++ [t]) = commonOne s b ++ (if max s.lo t.lo ≤ min s.hi t.hi then [⟨max s.lo t.lo, min s.hi t.hi⟩] else []) := by
  unfold commonOne
  rw [List.flatMap_append, List.flatMap_cons, List.flatMap_nil, List.append_nil]
theorem commonOne_len (s : Span) (b : List Span) : (commonOne s b).length ≤ b.length := by
  unfold commonOne
  induction b with
  | nil => simp
  | cons t b ih =>
    rw [List.flatMap_cons, List.length_append, List.length_cons]
    split <;> simp only [List.length_cons, List.length_nil] <;> omega
theorem common_take_len (a b : List Span) (k m : Nat) (s : Span) (hk : k < a.length) (hm : m ≤ b.length) : (commonL (a.take k) b ++ commonOne s (b.take m)).length ≤ a.length * b.length := by
  rw [List.length_append]
  have h1 := common_len (a.take k) b
  have h2 := commonOne_len s (b.take m)
  rw [List.length_take, Nat.min_eq_left (by omega)] at h1 h2
  have h3 : (k + 1) * b.length ≤ a.length * b.length := Nat.mul_le_mul_right _ hk
  rw [Nat.succ_mul] at h3
  omega
theorem again_ask (b : List Scale) (g later : Gear) : (if bayOk b then (if gearOk b g && gearOk b later then (0 : Int) else 41) else 40) = if check b g ≠ 0 then check b g else check b later := by
  unfold check
  cases bayOk b <;> cases gearOk b g <;> cases gearOk b later <;> simp
theorem neat_take {l : List Span} (h : Neat l) (k : Nat) : Neat (l.take k) := ⟨fun s hs => h.1 s (List.mem_of_mem_take hs), h.2.sublist (List.take_sublist k l)⟩
theorem mem_commonOne {s x : Span} {b : List Span} (h : x ∈ commonOne s b) : ∃ t ∈ b, x = ⟨max s.lo t.lo, min s.hi t.hi⟩ := by
  unfold commonOne at h
  obtain ⟨t, ht, h⟩ := List.mem_flatMap.1 h
  split at h
  · exact ⟨t, ht, List.mem_singleton.1 h⟩
  · simp at h
/-- What neat spans have in common is neat. -/
theorem common_neat {a b : List Span} (ha : Neat a) (hb : Neat b) : Neat (commonL a b) := by
  refine ⟨common_full a b, ?_⟩
  unfold commonL
  rw [List.pairwise_flatMap]
  refine ⟨fun s _ => ?_, ha.2.imp fun {s s'} h x hx y hy => ?_⟩
  · rw [List.pairwise_flatMap]
    refine ⟨fun t _ => ?_, hb.2.imp fun {t t'} h x hx y hy => ?_⟩
    · split
      · exact List.pairwise_singleton _ _
      · exact List.Pairwise.nil
    · split at hx
      · split at hy
        · rw [List.mem_singleton.1 hx, List.mem_singleton.1 hy]
          dsimp only
          omega
        · simp at hy
      · simp at hx
  · obtain ⟨t, _, rfl⟩ := mem_commonOne (s := s) hx
    obtain ⟨t', _, rfl⟩ := mem_commonOne (s := s') hy
    dsimp only
    omega
theorem common_few {a b : List Span} (ha : Neat a) (hb : Neat b) (wa : Within 0 40000000000 a) : (commonL a b).length ≤ 1000000000000 := by
  have := neat_len (common_neat ha hb) (common_within wa) (by omega)
  omega
theorem common_take_few {a b : List Span} {k : Nat} {s : Span} (ha : Neat a) (hb : Neat b) (wa : Within 0 40000000000 a) (hs : a[k]? = some s) (m : Nat) : (commonL (a.take k) b ++ commonOne s (b.take m)).length ≤ 1000000000000 := by
  have h1 : commonL (a.take (k + 1)) b = commonL (a.take k) b ++ commonOne s b := by
    obtain ⟨hk, rfl⟩ := List.getElem?_eq_some_iff.1 hs
    rw [List.take_succ_eq_append_getElem hk, commonL_snoc]
  have h2 := common_few (neat_take ha (k + 1)) hb (fun x hx => wa x (List.mem_of_mem_take hx))
  rw [h1, List.length_append] at h2
  rw [List.length_append]
  have h3 : (commonOne s (b.take m)).length ≤ (commonOne s b).length := by
    conv => rhs; rw [← List.take_append_drop m b]
    unfold commonOne
    rw [List.flatMap_append, List.length_append]
    omega
  omega
end Kr

/-
  Walks: what two totals have in common, and what is known of it.
-/
namespace Go.Proofs.YtihkmkocgmkcjaaGreatDoor
open Go.RowKit Kr
set_option linter.unusedSimpArgs false

theorem row_gear2 (w : World) (x y : GearV) (n : Nat) (hn : n = w.heap.size) : IsRow gearC 8 (w.alloc (.cells (gearC x ++ gearC y).toArray 38)) (.slice (some ⟨n, 0, none⟩) 2 2) [x, y] := by
  have h : BlkAt (w.alloc (.cells (gearC x ++ gearC y).toArray 38)) n (([x, y] : List GearV).flatMap gearC) := by
    have h := BlkAt.new w (gearC x ++ gearC y) 38 hn
    simpa using h
  exact IsRow.of_blk (enc := gearC) (k := 8) (xs := [x, y]) (fun _ => rfl) h ⟨by subst hn; simp⟩ (by simp)

end Go.Proofs.YtihkmkocgmkcjaaGreatDoor

/-
  Walks: what is known of a total that was weighed twice.
-/
namespace Go.Proofs.YtihkmkocgmkcjaaGreatDoor
open Go.RowKit Kr
set_option linter.unusedSimpArgs false

/-- What the region of the reference's totals leaves. -/
def AgainAt (A B : List Span) (c : Nat) (W : World) (v : Value) : Prop := (c = 2 → IsRow (fun t : Kr.Span => [.int .i64 t.lo, .int .i64 t.hi]) 2 W v A) ∧ (c = 5 → IsRow (fun t : Kr.Span => [.int .i64 t.lo, .int .i64 t.hi]) 2 W v B) ∧ (c = 6 → IsRow (fun t : Kr.Span => [.int .i64 t.lo, .int .i64 t.hi]) 2 W v (merged (commonL A B)))
theorem AgainAt.mono {A B : List Span} {c : Nat} {W W' : World} {v : Value} (h : AgainAt A B c W v) (hE : W.Exts W') : AgainAt A B c W' v := ⟨fun e => (h.1 e).mono hE, fun e => (h.2.1 e).mono hE, fun e => (h.2.2 e).mono hE⟩
/-- What holds of gear that is asked. -/
structure GearAsk (ts : List (Kr.Scale × Value)) (g : Gear) : Prop where
  h6 : g.loads.length ≤ 6
  sh : ∀ x ∈ ts, ∀ l ∈ g.loads, l.scale = x.1.id → -2000000 ≤ l.shown ∧ l.shown ≤ 2000000
  ad : 0 ≤ g.added ∧ g.added ≤ 1000000
  neat : Neat (totals (ts.map Prod.fst) g)
  win : Within 0 40000000000 (totals (ts.map Prod.fst) g)
  few : (totals (ts.map Prod.fst) g).length ≤ 100000000
theorem gearAsk {ts : List (Kr.Scale × Value)} {g : Gear} (h : check (ts.map Prod.fst) g = 0) : GearAsk ts g ∧ ts.length ≤ 4 ∧ ∀ x ∈ ts, right x.1 = true := by
  obtain ⟨hz1, hz2⟩ := check_zero h
  have hok := check_ok hz1 hz2
  have hn : ts.length ≤ 4 := by have := hok.few; rwa [List.length_map] at this
  have h6 := hok.l6
  have had := hok.ad
  have htk : Neat (totals (ts.map Prod.fst) g) ∧ Within g.added (g.added + 1000000 * g.loads.length * (used (ts.map Prod.fst) g.loads).length) (totals (ts.map Prod.fst) g) := by
    refine totalsL_ok g.loads _ [⟨g.added, g.added⟩] g.added g.added ⟨fun s hs => by rw [List.mem_singleton.1 hs]; exact Int.le_refl _, List.pairwise_singleton _ _⟩ (fun s hs => by rw [List.mem_singleton.1 hs]; simp)
  have hul : (used (ts.map Prod.fst) g.loads).length ≤ 4 := by
    have := List.length_filter_le (usedB g.loads) (ts.map Prod.fst)
    rw [List.length_map] at this
    unfold used
    omega
  have hprod : (1000000 * (g.loads.length : Int) * ((used (ts.map Prod.fst) g.loads).length : Int)) ≤ 24000000 := by
    have h1 : g.loads.length * (used (ts.map Prod.fst) g.loads).length ≤ 6 * 4 := Nat.mul_le_mul h6 hul
    have h2 : ((g.loads.length * (used (ts.map Prod.fst) g.loads).length : Nat) : Int) ≤ 24 := by omega
    rw [Int.natCast_mul] at h2
    rw [Int.mul_assoc]
    omega
  have hw : Within 0 25000000 (totals (ts.map Prod.fst) g) := fun s hs => by
    have := htk.2 s hs
    omega
  have hl := neat_len htk.1 hw (by omega)
  exact ⟨⟨h6, fun x hx => hok.sh _ (List.mem_map.2 ⟨x, hx, rfl⟩), had, htk.1, within_le hw (by omega), by omega⟩, hn, fun x hx => hok.rt _ (List.mem_map.2 ⟨x, hx, rfl⟩)⟩
theorem again_first {b : List Scale} {g l : Gear} {n : Norm} (h : check b g ≠ 0) : againR b g l n = (0, check b g) := by unfold againR; rw [if_pos h]
theorem again_later {b : List Scale} {g l : Gear} {n : Norm} (h0 : check b g = 0) (h : check b l ≠ 0) : againR b g l n = (0, check b l) := by unfold againR; rw [if_neg (by simp [h0]), if_pos h]
theorem again_norm {b : List Scale} {g l : Gear} {n : Norm} (h0 : check b g = 0) (h1 : check b l = 0) (h : normB n = false) : againR b g l n = (0, 42) := by unfold againR; rw [if_neg (by simp [h0]), if_neg (by simp [h1]), if_pos h]
theorem again_none {b : List Scale} {g l : Gear} {n : Norm} (h0 : check b g = 0) (h1 : check b l = 0) (h2 : normB n = true) (h : commonL (totals b g) (totals b l) = []) : againR b g l n = (0, 6) := by unfold againR; rw [if_neg (by simp [h0]), if_neg (by simp [h1]), if_neg (by simp [h2]), if_pos h]
theorem again_all {b : List Scale} {g l : Gear} {n : Norm} (h0 : check b g = 0) (h1 : check b l = 0) (h2 : normB n = true) (h : commonL (totals b g) (totals b l) ≠ []) : againR b g l n = (knownR (commonL (totals b g) (totals b l)) n.total, 0) := by unfold againR; rw [if_neg (by simp [h0]), if_neg (by simp [h1]), if_neg (by simp [h2]), if_neg h]
theorem norm_total {n : Norm} (h : normB n = true) : n.total.lo ≤ n.total.hi := by
  unfold normB ordered at h
  simp at h
  omega

end Go.Proofs.YtihkmkocgmkcjaaGreatDoor

/-
  Walks: how lists of numbers compare, and the members of a set.
-/
namespace Go.Proofs.YtihkmkocgmkcjaaGreatDoor
open Go.RowKit Kr
set_option linter.unusedSimpArgs false

theorem cmp_isNaN_any (x : Int) (w : World) : Calls Tryz.prog 157 #[.int .i64 x] w fun e w' => e = .returned (.bool false) ∧ w.Exts w' := by
  go_enter Tryz.func157, Tryz.ntmps157
  go_wp2_with fail
  go_ret
  exact ⟨by simp, exq⟩
theorem cmp_Compare_any (x y : Nat) (w : World) : Calls Tryz.prog 128 #[.int .i64 (x : Int), .int .i64 (y : Int)] w fun e w' => e = .returned (.int .i64 (if x = y then 0 else if x < y then -1 else 1)) ∧ w.Exts w' := by
  rcases Nat.lt_trichotomy x y with h | h | h
  · have hv : (if x = y then (0 : Int) else if x < y then -1 else 1) = -1 := by rw [if_neg (by omega), if_pos h]
    rw [hv]
    clear hv
    go_enter Tryz.func128, Tryz.ntmps128
    go_wp2_with (go_at_call 157; refine (cmp_isNaN_any _ _).mono ?_; rintro e w' ⟨rfl, X2, rfl⟩)
    go_ret
    exact ⟨rfl, exq⟩
  · subst h
    rw [if_pos rfl]
    go_enter Tryz.func128, Tryz.ntmps128
    go_wp2_with (go_at_call 157; refine (cmp_isNaN_any _ _).mono ?_; rintro e w' ⟨rfl, X2, rfl⟩)
    go_ret
    exact ⟨rfl, exq⟩
  · have hv : (if x = y then (0 : Int) else if x < y then -1 else 1) = 1 := by rw [if_neg (by omega), if_neg (by omega)]
    rw [hv]
    clear hv
    go_enter Tryz.func128, Tryz.ntmps128
    go_wp2_with (go_at_call 157; refine (cmp_isNaN_any _ _).mono ?_; rintro e w' ⟨rfl, X2, rfl⟩)
    go_ret
    exact ⟨rfl, exq⟩

set_option maxRecDepth 4000 in
set_option maxHeartbeats 1000000 in
theorem Compare_int_any (a b : List Nat) (va vb : Value) (w : World) (ha : IsRow (fun x : Nat => [.int .i64 (x : Int)]) 1 w va a) (hb : IsRow (fun x : Nat => [.int .i64 (x : Int)]) 1 w vb b) :
    Calls Tryz.prog 80 #[va, vb] w fun e w' => e = .returned (.int .i64 (compareN a b)) ∧ w.Exts w' := by
  obtain ⟨p1, b1, o1, cap1, rfl, hm1, hp1, hc1⟩ := ha.ex
  obtain ⟨p2, b2, o2, cap2, rfl, hm2, hp2, hc2⟩ := hb.ex
  have HP1 := Lib.hid hp1
  clear hp1
  have HC1 := Lib.hid hc1
  clear hc1
  have HP2 := Lib.hid hp2
  clear hp2
  have HC2 := Lib.hid hc2
  clear hc2
  clear ha hb
  go_enter Tryz.func80, Tryz.ntmps80
  go_wp2_with fail
  go_loopw [11] (fun i wr => ∃ k : Nat, k ≤ a.length ∧ i = .int .i64 k ∧ Hid (compareN a b = compareN (a.drop k) (b.drop k)) ∧ w.Exts wr) (fun i _ => a.length - (intOf i).toNat)
  case atStart => exact ⟨0, Nat.zero_le _, rfl, Lib.hid rfl, exq⟩
  case round =>
    obtain ⟨k, hk, rfl, HK, X, rfl⟩ := hrel
    by_cases hlt : k < a.length
    · obtain ⟨rfl, hl1⟩ := HP1.out (by omega)
      obtain ⟨x, hx⟩ := some_of_lt hlt
      have hcs := HC1.out k x hx
      have c0 := hcs 0 _ rfl
      simp only [Nat.mul_one, Nat.add_zero] at c0
      rcases Nat.lt_or_ge k b.length with h2 | h2
      · obtain ⟨rfl, hl2⟩ := HP2.out (by omega)
        obtain ⟨y, hy⟩ := some_of_lt h2
        have hds := HC2.out k y hy 0 _ rfl
        simp only [Nat.mul_one, Nat.add_zero] at hds
        have hst := compareN_step hx hy
        rcases Nat.lt_trichotomy x y with h | h | h
        · have hfin : compareN a b = -1 := by rw [HK.out, hst, if_neg (by omega), if_pos h]
          have hv : (if x = y then (0 : Int) else if x < y then -1 else 1) = -1 := by rw [if_neg (by omega), if_pos h]
          have HF := Lib.hid hfin
          clear hfin
          have HV := Lib.hid hv
          clear hv
          clear hx hy hcs hst
          go_wp2_with (go_at_call 128; refine (cmp_Compare_any x y _).mono ?_; rw [HV.out]; rintro e w' ⟨rfl, X2, rfl⟩)
          go_ret
          exact ⟨by rw [HF.out]; rfl, exq⟩
        · have hnx : compareN a b = compareN (a.drop (k + 1)) (b.drop (k + 1)) := by rw [HK.out, hst, if_pos h]
          have hv : (if x = y then (0 : Int) else if x < y then -1 else 1) = 0 := by rw [if_pos h]
          have HN := Lib.hid hnx
          clear hnx
          have HV := Lib.hid hv
          clear hv
          clear hx hy hcs hst h
          go_wp2_with (go_at_call 128; refine (cmp_Compare_any x y _).mono ?_; rw [HV.out]; rintro e w' ⟨rfl, X2, rfl⟩)
          go_roundw
          case rel => exact ⟨k + 1, by omega, by go_num, Lib.hid HN.out, exq⟩
          case measure => simp [intOf]; omega
        · have hfin : compareN a b = 1 := by rw [HK.out, hst, if_neg (by omega), if_neg (by omega)]
          have hv : (if x = y then (0 : Int) else if x < y then -1 else 1) = 1 := by rw [if_neg (by omega), if_neg (by omega)]
          have HF := Lib.hid hfin
          clear hfin
          have HV := Lib.hid hv
          clear hv
          clear hx hy hcs hst
          go_wp2_with (go_at_call 128; refine (cmp_Compare_any x y _).mono ?_; rw [HV.out]; rintro e w' ⟨rfl, X2, rfl⟩)
          go_ret
          exact ⟨by rw [HF.out]; rfl, exq⟩
      · have hfin : compareN a b = 1 := by rw [HK.out]; exact compareN_left hlt h2
        have HF := Lib.hid hfin
        clear hfin
        clear hx hcs
        go_wp2_with fail
        go_ret
        exact ⟨by rw [HF.out]; rfl, exq⟩
    · have hfin : compareN a b = if k < b.length then -1 else 0 := by rw [HK.out]; exact compareN_end (by omega)
      rcases Nat.lt_or_ge k b.length with h2 | h2
      · rw [if_pos h2] at hfin
        have HF := Lib.hid hfin
        clear hfin
        go_wp2_with fail
        go_ret
        exact ⟨by rw [HF.out]; rfl, exq⟩
      · rw [if_neg (by omega)] at hfin
        have HF := Lib.hid hfin
        clear hfin
        go_wp2_with fail
        go_ret
        exact ⟨by rw [HF.out]; rfl, exq⟩

set_option maxRecDepth 4000 in
set_option maxHeartbeats 1000000 in
theorem r04_before_any (a b : List Nat) (va vb : Value) (w : World) (ha : IsRow (fun x : Nat => [.int .i64 (x : Int)]) 1 w va a) (hb : IsRow (fun x : Nat => [.int .i64 (x : Int)]) 1 w vb b) :
    Calls Tryz.prog 84 #[va, vb] w fun e w' => e = .returned (.bool (beforeB a b)) ∧ w.Exts w' := by
  obtain ⟨p1, b1, o1, cap1, rfl, hm1, hp1, hc1⟩ := ha.ex
  obtain ⟨p2, b2, o2, cap2, rfl, hm2, hp2, hc2⟩ := hb.ex
  have HP1 := Lib.hid hp1
  clear hp1
  have HC1 := Lib.hid hc1
  clear hc1
  have HP2 := Lib.hid hp2
  clear hp2
  have HC2 := Lib.hid hc2
  clear hc2
  clear ha hb
  by_cases hne : a.length = b.length
  · have hfin : beforeB a b = lexB a b := by unfold beforeB; rw [if_neg (by simp [hne])]
    rw [hfin, ← hne]
    have hle : a.length ≤ b.length := by omega
    have hge : b.length ≤ a.length := by omega
    clear hfin hne
    go_enter Tryz.func84, Tryz.ntmps84
    go_wp2_with fail
    go_loopw [5] (fun i wr => ∃ k : Nat, k ≤ a.length ∧ i = .int .i64 k ∧ Hid (lexB a b = lexB (a.drop k) (b.drop k)) ∧ w.Exts wr) (fun i _ => a.length - (intOf i).toNat)
    case atStart => exact ⟨0, Nat.zero_le _, rfl, Lib.hid rfl, exq⟩
    case round =>
      obtain ⟨k, hk, rfl, HK, X, rfl⟩ := hrel
      by_cases hlt : k < a.length
      · obtain ⟨rfl, hl1⟩ := HP1.out (by omega)
        obtain ⟨x, hx⟩ := some_of_lt hlt
        have hcs := HC1.out k x hx
        have c0 := hcs 0 _ rfl
        simp only [Nat.mul_one, Nat.add_zero] at c0
        obtain ⟨rfl, hl2⟩ := HP2.out (by omega)
        obtain ⟨y, hy⟩ := some_of_lt (xs := b) (k := k) (by omega)
        have hds := HC2.out k y hy 0 _ rfl
        simp only [Nat.mul_one, Nat.add_zero] at hds
        have hst := lexB_step hx hy
        rcases Nat.lt_trichotomy x y with h | h | h
        · have hfin : lexB a b = true := by rw [HK.out, hst, if_neg (by omega)]; simp [h]
          have HF := Lib.hid hfin
          clear hfin
          clear hx hy hcs hst
          go_wp2_with fail
          refine wp_region_ext (by kernel_rfl) (by kernel_rfl) ?_
          repeat (go_big_quiet_step (fail))
          refine wpQuiet_nil ?_
          rintro _ ⟨X, rfl⟩
          go_wp2_with fail
          refine wp_region_ext (by kernel_rfl) (by kernel_rfl) ?_
          repeat (go_big_quiet_step (fail))
          refine wpQuiet_nil ?_
          rintro _ ⟨X, rfl⟩
          go_wp2_with fail
          go_ret
          exact ⟨by rw [HF.out]; try simp [h], exq⟩
        · have hnx : lexB a b = lexB (a.drop (k + 1)) (b.drop (k + 1)) := by rw [HK.out, hst, if_pos h]
          have HN := Lib.hid hnx
          clear hnx
          have hxy : ((x : Int) != (y : Int)) = false := by simp [h]
          clear hx hy hcs hst h
          go_wp2_with fail
          refine wp_region_ext (by kernel_rfl) (by kernel_rfl) ?_
          repeat (go_big_quiet_step (fail))
          refine wpQuiet_nil ?_
          rintro _ ⟨X, rfl⟩
          go_wp2_with fail
          go_roundw
          case rel => exact ⟨k + 1, by omega, by go_num, Lib.hid HN.out, exq⟩
          case measure => simp [intOf]; omega
        · have hfin : lexB a b = false := by rw [HK.out, hst, if_neg (by omega)]; simp; omega
          have HF := Lib.hid hfin
          clear hfin
          clear hx hy hcs hst
          go_wp2_with fail
          refine wp_region_ext (by kernel_rfl) (by kernel_rfl) ?_
          repeat (go_big_quiet_step (fail))
          refine wpQuiet_nil ?_
          rintro _ ⟨X, rfl⟩
          go_wp2_with fail
          refine wp_region_ext (by kernel_rfl) (by kernel_rfl) ?_
          repeat (go_big_quiet_step (fail))
          refine wpQuiet_nil ?_
          rintro _ ⟨X, rfl⟩
          go_wp2_with fail
          go_ret
          exact ⟨by rw [HF.out]; try (simp; omega), exq⟩
      · have hfin : lexB a b = false := by rw [HK.out]; exact lexB_end (by omega)
        have HF := Lib.hid hfin
        clear hfin
        go_wp2_with fail
        go_ret
        exact ⟨by rw [HF.out]; rfl, exq⟩
  · have hfin : beforeB a b = decide (a.length < b.length) := by unfold beforeB; rw [if_pos (by simpa using hne)]
    rw [hfin]
    rcases Nat.lt_or_ge a.length b.length with h | h
    · clear hfin hne
      go_enter Tryz.func84, Tryz.ntmps84
      go_wp2_with fail
      go_ret
      exact ⟨by simp [h], exq⟩
    · have h' : b.length < a.length := by omega
      clear hfin hne
      go_enter Tryz.func84, Tryz.ntmps84
      go_wp2_with fail
      go_ret
      exact ⟨by first | rfl | (simp; omega), exq⟩
end Go.Proofs.YtihkmkocgmkcjaaGreatDoor

/-
  Walks of the reference: the members of a set; numbers within bounds; whether pieces are the best.
-/
namespace Go.Proofs.YtihkmkocgmkcjaaGreatDoor
open Go.RowKit Kr
set_option linter.unusedSimpArgs false

def natCs (l : List Nat) : List Value := l.flatMap fun x : Nat => [.int .i64 (x : Int)]
theorem natCs_snoc (l : List Nat) (x : Nat) : natCs (l ++ [x]) = natCs l ++ [.int .i64 (x : Int)] := by simp [natCs]
theorem elem_intN : ElemOf Tryz.prog 36 3 (.int .i64 0) 1 8 := ⟨Tryz.underlying36, by kernel_rfl, rfl, by decide, by decide⟩
theorem row_nats {w : World} {base : Nat} {e : TypeId} {v : Value} {l : List Nat} (h : w.ownsRow base e 1 v l.length (natCs l)) : IsRow (fun x : Nat => [.int .i64 (x : Int)]) 1 w v l := IsRow.of_owns h (fun _ _ => rfl)

theorem bit_at : ∀ s : Fin 256, ∀ k : Fin 8, bits .and .i64 ((s.1 : Int) / 2 ^ k.1) 1 = if s.1.testBit k.1 then 1 else 0 := by decide +kernel

set_option maxRecDepth 4000 in
set_option maxHeartbeats 1000000 in
theorem r04_members_any (set n : Nat) (hs : set < 256) (hn : n ≤ 8) (w : World) :
    Calls Tryz.prog 82 #[.int .i64 (set : Int), .int .i64 (n : Int)] w fun e w' => ∃ v, e = .returned v ∧ IsRow (fun x : Nat => [.int .i64 (x : Int)]) 1 w' v (membersN set n) ∧ w.Exts w' := by
  go_enter Tryz.func82, Tryz.ntmps82
  go_wp2_with fail
  go_loopw [5, 6] (fun out i wr => ∃ k : Nat, k ≤ n ∧ i = .int .i64 k ∧ Hid (wr.ownsRow w.heap.size 3 1 out (membersN set k).length (natCs (membersN set k))) ∧ w.Exts wr) (fun _ i _ => n - (intOf i).toNat)
  case atStart => exact ⟨0, Nat.zero_le _, rfl, Lib.hid (World.ownsRow_nil _ _ _ _), exq⟩
  case round =>
    obtain ⟨k, hk, rfl, HO, hE⟩ := hrel
    obtain ⟨X, rfl⟩ := hE
    by_cases hlt : k < n
    · have hlen := membersN_len set k
      have hnx := membersN_succ set k
      generalize membersN set k = L at hlen hnx HO
      have hbit := bit_at ⟨set, hs⟩ ⟨k, by omega⟩
      dsimp only at hbit
      cases hb : set.testBit k
      · rw [hb] at hnx hbit
        simp only [Bool.false_eq_true, if_false] at hbit hnx
        rw [List.append_nil] at hnx
        have HNX := Lib.hid hnx
        clear hnx
        clear hb
        go_wp2_with fail
        go_roundw
        case rel => exact ⟨k + 1, by omega, by go_num, Lib.hid (by rw [HNX.out]; exact HO.out), exq⟩
        case measure => simp [intOf]; omega
      · rw [hb] at hnx hbit
        simp only [if_true] at hbit hnx
        have HNX := Lib.hid hnx
        clear hnx
        clear hb
        go_wp2_with (at_builtin; refine wpList_append1W (.tmp 17) (.tmp 19) elem_intN rfl rfl rfl (ownsRow_exts HO.out exq) [.int .i64 (k : Int)] _ (by simp) rfl rfl ?h1 ?h2 ?h4 ?h3 ?_)
        case h1 => intro u hu; simp at hu; subst hu; rfl
        case h2 => omega
        case h4 => decide
        case h3 => exact World.Exts.size exq
        intro v' w' hown' happ
        have hE := happ.exts w exq (Nat.le_refl _)
        have HO3 := Lib.hid hown'
        clear hown'
        have HE := Lib.hid hE
        clear hE
        clear happ
        go_wp2_with fail
        go_roundw
        case rel => exact ⟨k + 1, by omega, by go_num, Lib.hid (by rw [HNX.out, natCs_snoc, List.length_append]; exact HO3.out), HE.out⟩
        case measure => simp [intOf]; omega
    · have hkn : k = n := by omega
      have hO := HO.out
      rw [hkn] at hO
      have hrw := row_nats hO
      obtain ⟨q, cp, rfl⟩ := hrw.len
      have HRW := Lib.hid hrw
      clear hrw
      clear hO HO hkn
      go_wp2_with fail
      go_ret
      exact ⟨_, rfl, HRW.out.mono exq, exq⟩
end Go.Proofs.YtihkmkocgmkcjaaGreatDoor

/-
  Walks: how choices compare, and the least of them.
-/
namespace Go.Proofs.YtihkmkocgmkcjaaGreatDoor
open Go.RowKit Kr
set_option linter.unusedSimpArgs false

/-- Choices, each with its pieces. -/
structure ChoicesAt (w : World) (v : Value) (l : List (Choice × Value)) : Prop where
  row : IsRow (fun x : Choice × Value => [.int .i64 x.1.weight, x.2]) 2 w v l
  each : ∀ x ∈ l, IsRow (fun x : Nat => [.int .i64 (x : Int)]) 1 w x.2 x.1.pieces
theorem ChoicesAt.mono {w w' : World} {v : Value} {l : List (Choice × Value)} (h : ChoicesAt w v l) (hE : w.Exts w') : ChoicesAt w' v l := ⟨h.row.mono hE, fun x hx => (h.each x hx).mono hE⟩

set_option maxRecDepth 4000 in
set_option maxHeartbeats 1000000 in
theorem scale_Ballast_1_any (a b : Choice) (va vb : Value) (w : World) (ha : IsRow (fun x : Nat => [.int .i64 (x : Int)]) 1 w va a.pieces) (hb : IsRow (fun x : Nat => [.int .i64 (x : Int)]) 1 w vb b.pieces) (wa : 0 ≤ a.weight ∧ a.weight ≤ 8000000) (wb : 0 ≤ b.weight ∧ b.weight ≤ 8000000) :
    Calls Tryz.prog 79 #[.agg #[.int .i64 a.weight, va], .agg #[.int .i64 b.weight, vb]] w fun e w' => e = .returned (.int .i64 (cmpC a b)) ∧ w.Exts w' := by
  obtain ⟨p1, c1, rfl⟩ := ha.len
  obtain ⟨p2, c2, rfl⟩ := hb.len
  have hla : a.pieces.length ≤ 9223372036854775807 := by obtain ⟨_, _, _, _, _, hm, _⟩ := ha.ex; omega
  have hlb : b.pieces.length ≤ 9223372036854775807 := by obtain ⟨_, _, _, _, _, hm, _⟩ := hb.ex; omega
  have HA := Lib.hid ha
  clear ha
  have HB := Lib.hid hb
  clear hb
  by_cases h1 : a.weight = b.weight
  · by_cases h2 : a.pieces.length = b.pieces.length
    · have hfin : cmpC a b = compareN a.pieces b.pieces := by unfold cmpC; rw [if_neg (by simp [h1]), if_neg (by simp [h2])]
      rw [hfin]
      have e1 : ((a.weight : Int) != b.weight) = false := by simp [h1]
      have e2 : ((a.pieces.length : Int) != b.pieces.length) = false := by simp [h2]
      clear hfin h1 h2
      go_enter Tryz.func79, Tryz.ntmps79
      go_wp2_with (go_at_call 80; refine (Compare_int_any a.pieces b.pieces _ _ _ (HA.out.mono exq) (HB.out.mono exq)).mono ?_; rintro e w' ⟨rfl, X2, rfl⟩)
      go_ret
      exact ⟨rfl, exq⟩
    · have hfin : cmpC a b = (a.pieces.length : Int) - b.pieces.length := by unfold cmpC; rw [if_neg (by simp [h1]), if_pos h2]
      rw [hfin]
      have e1 : ((a.weight : Int) != b.weight) = false := by simp [h1]
      have e2 : ((a.pieces.length : Int) != b.pieces.length) = true := by simp; omega
      clear hfin h1 h2
      go_enter Tryz.func79, Tryz.ntmps79
      go_wp2_with fail
      go_ret
      exact ⟨rfl, exq⟩
  · have hfin : cmpC a b = a.weight - b.weight := by unfold cmpC; rw [if_pos h1]
    rw [hfin]
    have e1 : ((a.weight : Int) != b.weight) = true := by simp [h1]
    clear hfin h1
    go_enter Tryz.func79, Tryz.ntmps79
    go_wp2_with fail
    go_ret
    exact ⟨rfl, exq⟩

theorem laysAs_frozen' {W : World} {b i : Nat} {cs : Array Value} {t : TypeId} (h : LaysAs W b (.cells cs t (0, 0))) : W.frozen? ⟨b, i, none⟩ = false := by
  unfold LaysAs at h; simp [World.frozen?, h]
theorem laysAs_other' {w : World} {b : Nat} {ob : Obj} (h : LaysAs w b ob) {a : Addr} (ha : b ≠ a.block) (u : Value) : LaysAs (w.setCell a u) b ob := (World.heap_set_other w _ u ha).trans h
theorem better_step {m c : Choice} : better (some m) c = if cmpC c m < 0 then some c else some m := by
  unfold better
  dsimp only
  rw [← cmpC_less]
  by_cases h : cmpC c m < 0
  · simp [h]
  · simp [h]

set_option maxRecDepth 4000 in
set_option maxHeartbeats 2000000 in
theorem MinFunc_choice_any (l : List (Choice × Value)) (v : Value) (w : World) (h : ChoicesAt w v l) (h0 : 0 < l.length) (hb : ∀ x ∈ l, 0 ≤ x.1.weight ∧ x.1.weight ≤ 8000000) :
    Calls Tryz.prog 78 #[v, .func (.func 79) #[] #[]] w fun e w' => ∃ m vm, e = .returned (.agg #[.int .i64 m.weight, vm]) ∧ (l.map Prod.fst).foldl better none = some m ∧ IsRow (fun x : Nat => [.int .i64 (x : Int)]) 1 w' vm m.pieces ∧ w.Exts w' := by
  have heach := h.each
  obtain ⟨p, b, o, cap, rfl, hm, hp, hc⟩ := h.row.ex
  obtain ⟨rfl, hlay⟩ := hp h0
  obtain ⟨⟨x, xv⟩, hx⟩ := some_of_lt h0
  have hcs := hc 0 _ hx
  have c0 := hcs 0 _ rfl
  have c1 := hcs 1 _ rfl
  simp only [Nat.add_zero] at c0 c1
  simp only [Nat.zero_mul, Nat.add_zero] at c0 c1
  have hxm := List.mem_of_getElem? hx
  obtain ⟨q1, k1, rfl⟩ : ∃ q k, xv = .slice q x.pieces.length k := (heach _ hxm).len
  have hst : ((l.take 1).map Prod.fst).foldl better none = some x := by rw [take_snoc (k := 0) hx]; rfl
  have HST := Lib.hid hst
  clear hst
  have HEA := Lib.hid heach
  clear heach
  have HB := Lib.hid hb
  clear hb
  have HC := Lib.hid hc
  clear hc
  clear hp h hcs
  go_enter Tryz.func78, Tryz.ntmps78
  go_wp2_with fail
  go_loopw [6] (fun i wr => ∃ (k : Nat) (y : Choice) (q : Option Addr) (kc : Nat), 1 ≤ k ∧ k ≤ l.length ∧ i = .int .i64 k ∧ Hid ((y, .slice q y.pieces.length kc) ∈ l) ∧ Hid (((l.take k).map Prod.fst).foldl better none = some y) ∧ Hid (LaysAs wr (w.heap.size + 1) (.cells [.int .i64 y.weight, .slice q y.pieces.length kc].toArray 164 (0, 0))) ∧ Hid (LaysAs wr w.heap.size (.cells [.int .i64 0, .slice none 0 0].toArray 164 (0, 0))) ∧ w.Exts wr) (fun i _ => l.length - (intOf i).toNat)
  case atStart =>
    refine ⟨1, x, q1, k1, by omega, by omega, rfl, Lib.hid hxm, Lib.hid HST.out, Lib.hid ?_, Lib.hid ?_, exq⟩
    · exact laysAs_size _ _ (by simp)
    · exact (LaysAs.new w (.cells #[.int .i64 0, .slice none 0 0] 164)).exts exq
  case round =>
    obtain ⟨k, y, q, kc, hk1, hk, rfl, HM, HY, HB1, HB0, hE⟩ := hrel
    have m0 := LaysAs.cell HB1.out 0 _ rfl
    have m1 := LaysAs.cell HB1.out 1 _ rfl
    have f0 : wr.frozen? ⟨w.heap.size + 1, 0, none⟩ = false := laysAs_frozen' HB1.out
    have f1 : wr.frozen? ⟨w.heap.size + 1, 1, none⟩ = false := laysAs_frozen' HB1.out
    have z0 := LaysAs.cell HB0.out 0 _ rfl
    have z1 := LaysAs.cell HB0.out 1 _ rfl
    have g0 : wr.frozen? ⟨w.heap.size, 0, none⟩ = false := laysAs_frozen' HB0.out
    have g1 : wr.frozen? ⟨w.heap.size, 1, none⟩ = false := laysAs_frozen' HB0.out
    have hl1 := Lays.of_cell m0
    have hl0 := Lays.of_cell z0
    by_cases hlt : k < l.length
    · obtain ⟨⟨z, zv⟩, hz⟩ := some_of_lt hlt
      have hcs := HC.out k _ hz
      have d0 := hE.cell (hcs 0 _ rfl)
      have d1 := hE.cell (hcs 1 _ rfl)
      simp only [Nat.add_zero] at d0 d1
      have hld := Lays.of_cell d0
      have hzm := List.mem_of_getElem? hz
      obtain ⟨q2, k2, rfl⟩ : ∃ q k, zv = .slice q z.pieces.length k := (HEA.out _ hzm).len
      have hnx : ((l.take (k + 1)).map Prod.fst).foldl better none = if cmpC z y < 0 then some z else some y := by
        rw [take_snoc hz, List.map_append, List.foldl_append, HY.out]
        exact better_step
      have hry := HEA.out _ HM.out
      have hrz := HEA.out _ hzm
      have hwy := HB.out _ HM.out
      have hwz := HB.out _ hzm
      dsimp only at hry hrz hwy hwz
      have HRY := Lib.hid hry
      clear hry
      have HRZ := Lib.hid hrz
      clear hrz
      have HWY := Lib.hid hwy
      clear hwy
      have HWZ := Lib.hid hwz
      clear hwz
      have HZM := Lib.hid hzm
      clear hzm
      clear hz hcs
      have hEr := hE
      rcases Int.lt_or_le (cmpC z y) 0 with hcmp | hcmp
      · rw [if_pos hcmp] at hnx
        have HNX := Lib.hid hnx
        clear hnx
        go_wp2_with fail
        refine wp_region_ext (by kernel_rfl) (by kernel_rfl) ?_
        repeat (go_big_quiet_step (first | (go_at_call 79; exact Calls.in_ext (scale_Ballast_1_any z y _ _ _ (HRZ.out.mono (exf hEr)) (HRY.out.mono (exf hEr)) HWZ.out HWY.out)) | (go_at_fn 79; exact Calls.in_ext (scale_Ballast_1_any z y _ _ _ (HRZ.out.mono (exf hEr)) (HRY.out.mono (exf hEr)) HWZ.out HWY.out))))
        refine wpQuiet_nil ?_
        rintro _ ⟨X, rfl⟩
        have hb1 := LaysAs.set (i := 1) (LaysAs.set (i := 0) (LaysAs.exts HB1.out (⟨X, rfl⟩ : wr.Exts (wr.ext X))) (.int .i64 z.weight)) (.slice q2 z.pieces.length k2)
        have hb0 := laysAs_other' (laysAs_other' (LaysAs.exts HB0.out (⟨X, rfl⟩ : wr.Exts (wr.ext X))) (a := ⟨w.heap.size + 1, 0, none⟩) (by simp) (.int .i64 z.weight)) (a := ⟨w.heap.size + 1, 1, none⟩) (by simp) (.slice q2 z.pieces.length k2)
        have HB1' := Lib.hid hb1
        clear hb1
        have HB0' := Lib.hid hb0
        clear hb0
        go_wp2_with fail
        go_roundw
        case rel => exact ⟨k + 1, z, q2, k2, by omega, by omega, by go_num, HZM, HNX, HB1', HB0', (exf hEr)⟩
        case measure => simp [intOf]; omega
      · rw [if_neg (by omega)] at hnx
        have HNX := Lib.hid hnx
        clear hnx
        go_wp2_with fail
        refine wp_region_ext (by kernel_rfl) (by kernel_rfl) ?_
        repeat (go_big_quiet_step (first | (go_at_call 79; exact Calls.in_ext (scale_Ballast_1_any z y _ _ _ (HRZ.out.mono (exf hEr)) (HRY.out.mono (exf hEr)) HWZ.out HWY.out)) | (go_at_fn 79; exact Calls.in_ext (scale_Ballast_1_any z y _ _ _ (HRZ.out.mono (exf hEr)) (HRY.out.mono (exf hEr)) HWZ.out HWY.out))))
        refine wpQuiet_nil ?_
        rintro _ ⟨X, rfl⟩
        go_wp2_with fail
        go_roundw
        case rel => exact ⟨k + 1, y, q, kc, by omega, by omega, by go_num, HM, HNX, Lib.hid (HB1.out.exts ⟨X, rfl⟩), Lib.hid (HB0.out.exts ⟨X, rfl⟩), (exf hEr)⟩
        case measure => simp [intOf]; omega
    · have hkl : k = l.length := by omega
      have hY := HY.out
      rw [hkl, List.take_length] at hY
      have hry := HEA.out _ HM.out
      dsimp only at hry
      have HRY := Lib.hid hry
      clear hry
      have HY2 := Lib.hid hY
      clear hY
      clear hkl
      go_wp2_with fail
      refine bodyPost_ret (v := .agg #[.int .i64 y.weight, .slice q y.pieces.length kc]) (by simp [results, Tryz.results78, go_sem, z0, z1]) rfl ?_
      exact ⟨y, _, rfl, HY2.out, HRY.out.mono (exf hE), (exf hE)⟩
end Go.Proofs.YtihkmkocgmkcjaaGreatDoor

/-
  Walks of the reference: which pieces are added.
-/
namespace Go.Proofs.YtihkmkocgmkcjaaGreatDoor
open Go.RowKit Kr
set_option linter.unusedSimpArgs false

theorem check_added0 {b : List Scale} {g : Gear} (h : check b g = 0) : check b { g with added := 0 } = 0 := by
  obtain ⟨h1, h2⟩ := check_zero h
  have h3 : gearOk b { g with added := 0 } = true := by
    unfold gearOk bare at h2 ⊢
    simp [inb] at h2 ⊢
    obtain ⟨⟨h4, h5⟩, h6⟩ := h2
    exact ⟨⟨h4, h5⟩, by simp_all⟩
  unfold check
  rw [h1, h3]
  rfl
theorem ballast_err {b : List Scale} {g : Gear} {n : Norm} {pieces : List Int} (h : check b g ≠ 0) : ballastR b g n pieces = ([], check b g) := by unfold ballastR; rw [if_pos h]
theorem ballast_norm {b : List Scale} {g : Gear} {n : Norm} {pieces : List Int} (h : check b g = 0) (h1 : normB n = false) : ballastR b g n pieces = ([], 42) := by unfold ballastR; rw [if_neg (by simp [h]), if_pos h1]
theorem ballast_arg {b : List Scale} {g : Gear} {n : Norm} {pieces : List Int} (h : check b g = 0) (h1 : normB n = true) (h2 : (inAll 0 1000000 pieces && decide (pieces.length ≤ 8)) = false) : ballastR b g n pieces = ([], 2) := by unfold ballastR; rw [if_neg (by simp [h]), if_neg (by simp [h1]), if_pos h2]
theorem ballast_none {b : List Scale} {g : Gear} {n : Norm} {pieces : List Int} (h : check b g = 0) (h1 : normB n = true) (h2 : (inAll 0 1000000 pieces && decide (pieces.length ≤ 8)) = true) (h3 : totals b { g with added := 0 } = []) : ballastR b g n pieces = ([], 6) := by unfold ballastR; rw [if_neg (by simp [h]), if_neg (by simp [h1]), if_neg (by simp [h2]), if_pos h3]
def outC : Option Choice → List Nat × Int
  | none => ([], 8)
  | some c => (c.pieces, 0)
theorem ballast_all {b : List Scale} {g : Gear} {n : Norm} {pieces : List Int} (h : check b g = 0) (h1 : normB n = true) (h2 : (inAll 0 1000000 pieces && decide (pieces.length ≤ 8)) = true) (h3 : totals b { g with added := 0 } ≠ []) : ballastR b g n pieces = outC (bestOf n (totals b { g with added := 0 }) pieces (2 ^ pieces.length)) := by
  unfold ballastR
  rw [if_neg (by simp [h]), if_neg (by simp [h1]), if_neg (by simp [h2]), if_neg h3]
  cases bestOf n (totals b { g with added := 0 }) pieces (2 ^ pieces.length) <;> rfl
theorem norm_bounds {n : Norm} (h : normB n = true) : (0 ≤ n.total.lo ∧ n.total.lo ≤ n.total.hi ∧ n.total.hi ≤ 10000000) ∧ 0 ≤ n.added ∧ n.added ≤ 1000000 := by
  unfold normB ordered inb at h
  simp at h
  omega

theorem wrap_pow : ∀ l : Fin 9, wrap64 ((2 : Int) ^ l.1) = ((2 ^ l.1 : Nat) : Int) := by decide +kernel
/-- The best choice of the first sets: its pieces, and what it weighs. -/
def BestIs (n : Norm) (T : List Span) (pieces : List Int) (k : Nat) (P : List Nat) (W : Int) : Prop :=
  (bestOf n T pieces k = none ∧ P = [] ∧ W = -1) ∨ (∃ c, bestOf n T pieces k = some c ∧ P = c.pieces ∧ W = c.weight ∧ 0 ≤ c.weight)

set_option maxRecDepth 4000 in
set_option maxHeartbeats 4000000 in
theorem r04_Ballast_any (ts : List (Kr.Scale × Value)) (v : Value) (g : Gear) (lv rv sv : Value) (n : Norm) (pieces : List Int) (pv : Value) (w : World) (hb : BayAt w v ts) (hg : GearAt w (g, lv, rv, sv)) (hp : IsRow (fun x : Int => [.int .i64 x]) 1 w pv pieces) :
    Calls Tryz.prog 50 #[.agg #[v], .agg #[lv, .int .i64 g.added, .int .i64 g.base, .int .i64 g.jitter, rv, sv, .int .i64 g.spread, .bool g.stamp], .agg #[.int .i64 n.total.lo, .int .i64 n.total.hi, .int .i64 n.added, .int .i64 n.warm, .int .i64 n.hard.lo, .int .i64 n.hard.hi, .bool n.stamp], pv] w fun e w' => ∃ vp, e = .returned (.tuple #[vp, .int .i64 (ballastR (ts.map Prod.fst) g n pieces).2]) ∧ IsRow (fun x : Nat => [.int .i64 (x : Int)]) 1 w' vp (ballastR (ts.map Prod.fst) g n pieces).1 ∧ w.Exts w' := by
  obtain ⟨p, cap, hv⟩ := hb.row.len
  subst hv
  obtain ⟨qp, cp, rfl⟩ := hp.len
  have hl1 := hg.l
  have hl2 := hg.r
  have hl3 := hg.s
  dsimp only at hl1 hl2 hl3
  obtain ⟨p1, cap1, rfl⟩ := hl1.len
  obtain ⟨p2, cap2, rfl⟩ := hl2.len
  obtain ⟨p3, cap3, rfl⟩ := hl3.len
  have HG := Lib.hid hg
  clear hg
  have e8 : decide ((pieces.length : Int) ≤ 8) = decide (pieces.length ≤ 8) := by rw [decide_eq_decide]; omega
  have HE8 := Lib.hid e8
  clear e8
  have HB := Lib.hid hb
  clear hb
  have HP := Lib.hid hp
  clear hp
  clear hl1 hl2 hl3
  by_cases hz : check (ts.map Prod.fst) g = 0
  · obtain ⟨hga, hn, hrt⟩ := gearAsk (check_added0 hz)
    cases hnb : normB n
    · rw [ballast_norm hz hnb]
      have HN := Lib.hid hnb
      clear hnb
      have HE := Lib.hid hz
      clear hz
      clear hga hrt
      go_enter Tryz.func50, Tryz.ntmps50
      go_wp2_with (first
        | (go_at_call 66; refine (r04_Check_any ts _ g _ _ _ _ (HB.out.mono exq) (HG.out.l.mono exq) (HG.out.r.mono exq) (HG.out.s.mono exq)).mono ?_; rintro e w' ⟨rfl, X2, rfl⟩; rw [HE.out])
        | (go_at_call 67; refine (r04_Norm_any n _).mono ?_; rintro e w' ⟨rfl, X3, rfl⟩; rw [HN.out])
        | (go_at_call 81; refine (r04_numbers_any pieces _ 8 0 1000000 _ (HP.out.mono exq)).mono ?_; rintro e w' ⟨rfl, X4, rfl⟩; rw [HE8.out, HPC.out])
        | (go_at_call 68; refine (r04_totals_any ts _ { g with added := 0 } _ _ _ _ (HB.out.mono exq) (HG0.out.mono exq) hn HRT.out h6 HSH.out ad).mono ?_; rw [HD.out]; rintro e w' ⟨vt, rfl, ht, X5, rfl⟩; obtain ⟨qt, ct, rfl⟩ := ht.len; have HT := Lib.hid ht; clear ht))
      go_ret2
      exact ⟨_, rfl, IsRow.nil _, exq⟩
    cases hpc : (inAll 0 1000000 pieces && decide (pieces.length ≤ 8))
    · rw [ballast_arg hz hnb hpc]
      have HN := Lib.hid hnb
      clear hnb
      have HE := Lib.hid hz
      clear hz
      have HPC := Lib.hid hpc
      clear hpc
      clear hga hrt
      go_enter Tryz.func50, Tryz.ntmps50
      go_wp2_with (first
        | (go_at_call 66; refine (r04_Check_any ts _ g _ _ _ _ (HB.out.mono exq) (HG.out.l.mono exq) (HG.out.r.mono exq) (HG.out.s.mono exq)).mono ?_; rintro e w' ⟨rfl, X2, rfl⟩; rw [HE.out])
        | (go_at_call 67; refine (r04_Norm_any n _).mono ?_; rintro e w' ⟨rfl, X3, rfl⟩; rw [HN.out])
        | (go_at_call 81; refine (r04_numbers_any pieces _ 8 0 1000000 _ (HP.out.mono exq)).mono ?_; rintro e w' ⟨rfl, X4, rfl⟩; rw [HE8.out, HPC.out])
        | (go_at_call 68; refine (r04_totals_any ts _ { g with added := 0 } _ _ _ _ (HB.out.mono exq) (HG0.out.mono exq) hn HRT.out h6 HSH.out ad).mono ?_; rw [HD.out]; rintro e w' ⟨vt, rfl, ht, X5, rfl⟩; obtain ⟨qt, ct, rfl⟩ := ht.len; have HT := Lib.hid ht; clear ht))
      go_ret2
      exact ⟨_, rfl, IsRow.nil _, exq⟩
    obtain ⟨h6, sh, ad, neat, win, _⟩ := hga
    generalize hd : totals (ts.map Prod.fst) { g with added := 0 } = T at neat win
    have hg0 : GearAt w ({ g with added := 0 }, .slice p1 g.loads.length cap1, .slice p2 g.runners.length cap2, .slice p3 g.strokes.length cap3) := ⟨HG.out.l, HG.out.r, HG.out.s, HG.out.len, HG.out.wf⟩
    rcases T with _ | ⟨s0, sr⟩
    · rw [ballast_none hz hnb hpc hd]
      have HN := Lib.hid hnb
      clear hnb
      have HE := Lib.hid hz
      clear hz
      have HPC := Lib.hid hpc
      clear hpc
      have HD := Lib.hid hd
      clear hd
      have HG0 := Lib.hid hg0
      clear hg0
      have HRT := Lib.hid hrt
      clear hrt
      have HSH := Lib.hid sh
      clear sh
      go_enter Tryz.func50, Tryz.ntmps50
      go_wp2_with (first
        | (go_at_call 66; refine (r04_Check_any ts _ g _ _ _ _ (HB.out.mono exq) (HG.out.l.mono exq) (HG.out.r.mono exq) (HG.out.s.mono exq)).mono ?_; rintro e w' ⟨rfl, X2, rfl⟩; rw [HE.out])
        | (go_at_call 67; refine (r04_Norm_any n _).mono ?_; rintro e w' ⟨rfl, X3, rfl⟩; rw [HN.out])
        | (go_at_call 81; refine (r04_numbers_any pieces _ 8 0 1000000 _ (HP.out.mono exq)).mono ?_; rintro e w' ⟨rfl, X4, rfl⟩; rw [HE8.out, HPC.out])
        | (go_at_call 68; refine (r04_totals_any ts _ { g with added := 0 } _ _ _ _ (HB.out.mono exq) (HG0.out.mono exq) hn HRT.out h6 HSH.out ad).mono ?_; rw [HD.out]; rintro e w' ⟨vt, rfl, ht, X5, rfl⟩; obtain ⟨qt, ct, rfl⟩ := ht.len; have HT := Lib.hid ht; clear ht))
      go_ret2
      exact ⟨_, rfl, IsRow.nil _, exq⟩
    rw [ballast_all hz hnb hpc (by rw [hd]; simp), hd]
    obtain ⟨hnb1, hnb2⟩ := norm_bounds hnb
    simp only [Bool.and_eq_true, decide_eq_true_eq] at hpc
    have hpb : ∀ x ∈ pieces, 0 ≤ x ∧ x ≤ 1000000 := fun x hx => by
      have := List.all_eq_true.1 hpc.1 x hx
      simpa [inb] using this
    have hpl := hpc.2
    have hpw := wrap_pow ⟨pieces.length, by omega⟩
    dsimp only at hpw
    have hN8 : 2 ^ pieces.length ≤ 256 := Nat.le_trans (Nat.pow_le_pow_right (by omega) hpl) (by decide : 2 ^ 8 ≤ 256)
    generalize 2 ^ pieces.length = N at hpw hN8 ⊢
    have hpc' : (inAll 0 1000000 pieces && decide (pieces.length ≤ 8)) = true := by simp [hpc]
    clear hpc
    have HN := Lib.hid hnb
    clear hnb
    have HE := Lib.hid hz
    clear hz
    have HPC := Lib.hid hpc'
    clear hpc'
    have HD := Lib.hid hd
    clear hd
    have HG0 := Lib.hid hg0
    clear hg0
    have HRT := Lib.hid hrt
    clear hrt
    have HSH := Lib.hid sh
    clear sh
    have HPB := Lib.hid hpb
    clear hpb
    have hz9 : (((sr.length : Int) + 1) == 0) = false := by rw [beq_eq_false_iff_ne]; omega
    go_enter Tryz.func50, Tryz.ntmps50
    go_wp2_with (first
      | (go_at_call 66; refine (r04_Check_any ts _ g _ _ _ _ (HB.out.mono exq) (HG.out.l.mono exq) (HG.out.r.mono exq) (HG.out.s.mono exq)).mono ?_; rintro e w' ⟨rfl, X2, rfl⟩; rw [HE.out])
      | (go_at_call 67; refine (r04_Norm_any n _).mono ?_; rintro e w' ⟨rfl, X3, rfl⟩; rw [HN.out])
      | (go_at_call 81; refine (r04_numbers_any pieces _ 8 0 1000000 _ (HP.out.mono exq)).mono ?_; rintro e w' ⟨rfl, X4, rfl⟩; rw [HE8.out, HPC.out])
      | (go_at_call 68; refine (r04_totals_any ts _ { g with added := 0 } _ _ _ _ (HB.out.mono exq) (HG0.out.mono exq) hn HRT.out h6 HSH.out ad).mono ?_; rw [HD.out]; rintro e w' ⟨vt, rfl, ht, X5, rfl⟩; obtain ⟨qt, ct, rfl⟩ := ht.len; have HT := Lib.hid ht; clear ht))
    have hwW : w.Exts (World.ext _ X5) := exq
    have hPV : IsRow (fun x : Int => [.int .i64 x]) 1 (World.ext _ X5) (.slice qp pieces.length cp) pieces := HP.out.mono exq
    have hTV := HT.out
    have b60 : (World.ext _ X5).cell? ⟨w.heap.size + 1 + 1, 0, none⟩ = some (.int .i64 n.total.lo) := by simp [go_sem]
    have b61 : (World.ext _ X5).cell? ⟨w.heap.size + 1 + 1, 1, none⟩ = some (.int .i64 n.total.hi) := by simp [go_sem]
    have b62 : (World.ext _ X5).cell? ⟨w.heap.size + 1 + 1, 2, none⟩ = some (.int .i64 n.added) := by simp [go_sem]
    clear HT
    generalize World.ext _ X5 = V at *
    have n6 := Lays.of_cell b60
    obtain ⟨pt, bt, ot, ct', et, hmt, hpt, hct⟩ := hTV.ex
    simp only [List.length_cons] at et hmt
    cases et
    obtain ⟨rfl, hlt9⟩ := hpt (by simp)
    have c00 := hct 0 s0 rfl 0 _ rfl
    obtain ⟨sl, hsl⟩ := some_of_lt (xs := s0 :: sr) (k := sr.length) (by simp)
    have cl1 := hct sr.length sl hsl 1 _ rfl
    simp only [Nat.zero_mul, Nat.add_zero] at c00
    have hfc : ∀ c, fitsC n (s0 :: sr) c = inb (n.total.lo - s0.lo) (min n.added (n.total.hi - sl.hi)) c.weight := fun c => by rw [fitsC_eq neat (by simp) c, getLastD_at hsl (by simp)]; rfl
    have hs1 := win s0 (List.mem_cons_self ..)
    have hs2 := win sl (List.mem_of_getElem? hsl)
    have hs3 := neat.1 s0 (List.mem_cons_self ..)
    have hs4 := neat.1 sl (List.mem_of_getElem? hsl)
    have HFC := Lib.hid hfc
    clear hfc
    have HPV := Lib.hid hPV
    clear hPV
    clear hTV hpt hct hsl neat win
    refine wp_region_ext (by kernel_rfl) (by kernel_rfl) ?_
    repeat (go_big_quiet_step (fail))
    refine wpQuiet_nil ?_
    rintro _ ⟨X, rfl⟩
    go_wp2_with fail
    go_loopw [14, 15, 16] (fun be le i wr => ∃ (k : Nat) (P : List Nat) (W : Int) (q : Option Addr) (c : Nat), k ≤ N ∧ i = .int .i64 k ∧ be = .slice q P.length c ∧ le = .int .i64 W ∧ Hid (BestIs n (s0 :: sr) pieces k P W) ∧ Hid (IsRow (fun x : Nat => [.int .i64 (x : Int)]) 1 wr be P) ∧ V.Exts wr) (fun _ _ i _ => N - (intOf i).toNat)
    case atStart => exact ⟨0, [], -1, none, 0, Nat.zero_le _, rfl, rfl, rfl, Lib.hid (.inl ⟨rfl, rfl, rfl⟩), Lib.hid (IsRow.nil _), exq⟩
    case round =>
      obtain ⟨k, P, W, q, c, hk, rfl, rfl, rfl, HBI, HRP, hE⟩ := hrel
      obtain ⟨X, rfl⟩ := hE
      by_cases hlt : k < N
      · have hmem : ∀ x ∈ membersN k pieces.length, x < pieces.length := fun x hx => membersN_lt hx
        have hmlen := membersN_len k pieces.length
        have hbs := bestOf_succ n (s0 :: sr) pieces k
        have hch : choiceOf pieces k = ⟨weighN pieces (membersN k pieces.length), membersN k pieces.length⟩ := rfl
        rw [hch] at hbs
        have hwb := weighN_bound HPB.out (membersN k pieces.length)
        have HBS := Lib.hid hbs
        clear hbs
        clear hch
        go_wp2_with (go_at_call 82; refine (r04_members_any k pieces.length (by omega) hpl _).mono ?_; rintro e w' ⟨vm, rfl, hm9, X6, rfl⟩; obtain ⟨qm, cm, rfl⟩ := hm9.len; have HM := Lib.hid hm9; clear hm9)
        generalize membersN k pieces.length = M at hmem hmlen hwb HBS HM ⊢
        obtain ⟨pm, bm, om, cm', em, hmm, hpm, hcm⟩ := HM.out.ex
        cases em
        obtain ⟨pp9, bp, op, cp', ep, hmp, hpp9, hcp⟩ := HPV.out.ex
        cases ep
        have HPM := Lib.hid hpm
        clear hpm
        have HCM := Lib.hid hcm
        clear hcm
        have HPP := Lib.hid hpp9
        clear hpp9
        have HCP := Lib.hid hcp
        clear hcp
        have HMEM := Lib.hid hmem
        clear hmem
        go_loopw [18, 19] (fun su j wr => ∃ m : Nat, m ≤ M.length ∧ j = .int .i64 m ∧ su = .int .i64 (weighN pieces (M.take m)) ∧ World.Exts (World.ext _ X6) wr) (fun _ j _ => M.length - (intOf j).toNat)
        case atStart => exact ⟨0, Nat.zero_le _, rfl, rfl, World.Exts.refl _⟩
        case round =>
          obtain ⟨m, hm, rfl, rfl, hE9⟩ := hrel
          obtain ⟨X7, rfl⟩ := hE9
          by_cases hlt2 : m < M.length
          · obtain ⟨rfl, hl9⟩ := HPM.out (by omega)
            obtain ⟨x, hx⟩ := some_of_lt hlt2
            have hcs := HCM.out m x hx
            have c0 := hcs 0 _ rfl
            simp only [Nat.mul_one, Nat.add_zero] at c0
            have hxl := HMEM.out x (List.mem_of_getElem? hx)
            obtain ⟨rfl, hl8⟩ := HPP.out (by omega)
            obtain ⟨y, hy⟩ := some_of_lt (xs := pieces) (k := x) hxl
            have hds := HCP.out x y hy 0 _ rfl
            simp only [Nat.mul_one, Nat.add_zero] at hds
            have hnx : weighN pieces (M.take (m + 1)) = weighN pieces (M.take m) + y := by
              rw [take_snoc hx, weighN_append]
              congr 1
              unfold weighN
              simp [List.getD_eq_getElem?_getD, hy]
            have hb1 := weighN_bound HPB.out (M.take m)
            have hb2 := HPB.out y (List.mem_of_getElem? hy)
            rw [List.length_take, Nat.min_eq_left (by omega)] at hb1
            generalize weighN pieces (M.take m) = S at hnx hb1 ⊢
            have HNX := Lib.hid hnx
            clear hnx
            clear hx hy hcs
            go_wp2_with fail
            go_roundw
            case rel => exact ⟨m + 1, by omega, by go_num, by rw [HNX.out], exq⟩
            case measure => simp [intOf]; omega
          · have hmn : M.take m = M := by rw [List.take_of_length_le (by omega)]
            rw [hmn]
            clear hmn
            have hM9 : IsRow (fun x : Nat => [.int .i64 (x : Int)]) 1 _ _ M := HM.out
            have HM9 := Lib.hid hM9
            clear hM9
            have hfit := HFC.out ⟨weighN pieces M, M⟩
            dsimp only at hfit
            have hS0 := hwb.1
            generalize weighN pieces M = S at HBS hwb hfit hS0 ⊢
            have hbs := HBS.out
            rw [hfit] at hbs
            clear hfit
            cases hin : inb (n.total.lo - s0.lo) (min n.added (n.total.hi - sl.hi)) S
            · rw [hin] at hbs
              simp only [Bool.false_eq_true, if_false] at hbs
              have hbi : BestIs n (s0 :: sr) pieces (k + 1) P W := by unfold BestIs; rw [hbs]; exact HBI.out
              have HIN := Lib.hid hin
              clear hin
              have HBI2 := Lib.hid hbi
              clear hbi
              clear hbs
              go_wp2_with (first
                | (go_at_call 83; refine (r04_within_any S _ _ _).mono ?_; rintro e w' ⟨rfl, X8, rfl⟩; rw [HIN.out])
                | (go_at_call 84; refine (r04_before_any M P _ _ _ (HM9.out.mono exq) (HRP.out.mono exq)).mono ?_; rintro e w' ⟨rfl, X9, rfl⟩; rw [HBF.out]))
              go_roundw
              case rel => exact ⟨k + 1, P, W, q, c, by omega, by go_num, rfl, rfl, HBI2, Lib.hid (HRP.out.mono exq), exq⟩
              case measure => simp [intOf]; omega
            · rw [hin] at hbs
              simp only [if_true] at hbs
              have HIN := Lib.hid hin
              clear hin
              rcases HBI.out with ⟨hb, hP, hW⟩ | ⟨ch, hb, hP, hW, hw0⟩
              · subst hP hW
                have hbi : BestIs n (s0 :: sr) pieces (k + 1) M S := by
                  unfold BestIs
                  rw [hbs, hb]
                  exact .inr ⟨_, rfl, rfl, rfl, hS0⟩
                have HBI2 := Lib.hid hbi
                clear hbi
                clear hbs hb
                go_wp2_with (first
                  | (go_at_call 83; refine (r04_within_any S _ _ _).mono ?_; rintro e w' ⟨rfl, X8, rfl⟩; rw [HIN.out])
                  | (go_at_call 84; refine (r04_before_any M P _ _ _ (HM9.out.mono exq) (HRP.out.mono exq)).mono ?_; rintro e w' ⟨rfl, X9, rfl⟩; rw [HBF.out]))
                go_roundw
                case rel => exact ⟨k + 1, M, S, _, _, by omega, by go_num, rfl, rfl, HBI2, Lib.hid (HM9.out.mono exq), exq⟩
                case measure => simp [intOf]; omega
              · rw [hb] at hbs
                have hkeep : lessC ⟨S, M⟩ ch = false → BestIs n (s0 :: sr) pieces (k + 1) P W := fun h => by
                  unfold BestIs
                  rw [hbs]
                  unfold better
                  dsimp only
                  rw [h]
                  exact .inr ⟨ch, rfl, hP, hW, hw0⟩
                have htake : lessC ⟨S, M⟩ ch = true → BestIs n (s0 :: sr) pieces (k + 1) M S := fun h => by
                  unfold BestIs
                  rw [hbs]
                  unfold better
                  dsimp only
                  rw [h]
                  exact .inr ⟨_, rfl, rfl, rfl, hS0⟩
                have hl1 : S < W → lessC ⟨S, M⟩ ch = true := fun h => by unfold lessC; rw [if_pos (by dsimp only; omega)]; simp; omega
                have hl2 : W < S → lessC ⟨S, M⟩ ch = false := fun h => by unfold lessC; rw [if_pos (by dsimp only; omega)]; simp; omega
                have hl3 : S = W → lessC ⟨S, M⟩ ch = beforeB M P := fun h => by unfold lessC; rw [if_neg (by simp; omega), hP]
                rw [← hW] at hw0
                clear hbs hb hP hW
                have hn1 : decide (W < 0) = false := by simp; omega
                rcases Int.lt_trichotomy S W with hc | hc | hc
                · have hbi := htake (hl1 hc)
                  have hd1 : decide (S < W) = true := by simp; omega
                  have HBI2 := Lib.hid hbi
                  clear hbi
                  clear htake hkeep hl1 hl2 hl3
                  go_wp2_with (first
                    | (go_at_call 83; refine (r04_within_any S _ _ _).mono ?_; rintro e w' ⟨rfl, X8, rfl⟩; rw [HIN.out])
                    | (go_at_call 84; refine (r04_before_any M P _ _ _ (HM9.out.mono exq) (HRP.out.mono exq)).mono ?_; rintro e w' ⟨rfl, X9, rfl⟩; rw [HBF.out]))
                  go_roundw
                  case rel => exact ⟨k + 1, M, S, _, _, by omega, by go_num, rfl, rfl, HBI2, Lib.hid (HM9.out.mono exq), exq⟩
                  case measure => simp [intOf]; omega
                · have hd1 : decide (S < W) = false := by simp; omega
                  have hd2 : (S == W) = true := by simp; omega
                  cases hbf : beforeB M P
                  · have hbi := hkeep (by rw [hl3 hc, hbf])
                    have HBI2 := Lib.hid hbi
                    clear hbi
                    have HBF := Lib.hid hbf
                    clear hbf
                    clear htake hkeep hl1 hl2 hl3 hc
                    go_wp2_with (first
                      | (go_at_call 83; refine (r04_within_any S _ _ _).mono ?_; rintro e w' ⟨rfl, X8, rfl⟩; rw [HIN.out])
                      | (go_at_call 84; refine (r04_before_any M P _ _ _ (HM9.out.mono exq) (HRP.out.mono exq)).mono ?_; rintro e w' ⟨rfl, X9, rfl⟩; rw [HBF.out]))
                    go_roundw
                    case rel => exact ⟨k + 1, P, W, q, c, by omega, by go_num, rfl, rfl, HBI2, Lib.hid (HRP.out.mono exq), exq⟩
                    case measure => simp [intOf]; omega
                  · have hbi := htake (by rw [hl3 hc, hbf])
                    have HBI2 := Lib.hid hbi
                    clear hbi
                    have HBF := Lib.hid hbf
                    clear hbf
                    clear htake hkeep hl1 hl2 hl3 hc
                    go_wp2_with (first
                      | (go_at_call 83; refine (r04_within_any S _ _ _).mono ?_; rintro e w' ⟨rfl, X8, rfl⟩; rw [HIN.out])
                      | (go_at_call 84; refine (r04_before_any M P _ _ _ (HM9.out.mono exq) (HRP.out.mono exq)).mono ?_; rintro e w' ⟨rfl, X9, rfl⟩; rw [HBF.out]))
                    go_roundw
                    case rel => exact ⟨k + 1, M, S, _, _, by omega, by go_num, rfl, rfl, HBI2, Lib.hid (HM9.out.mono exq), exq⟩
                    case measure => simp [intOf]; omega
                · have hbi := hkeep (hl2 hc)
                  have hd1 : decide (S < W) = false := by simp; omega
                  have hd2 : (S == W) = false := by simp; omega
                  have HBI2 := Lib.hid hbi
                  clear hbi
                  clear htake hkeep hl1 hl2 hl3
                  go_wp2_with (first
                    | (go_at_call 83; refine (r04_within_any S _ _ _).mono ?_; rintro e w' ⟨rfl, X8, rfl⟩; rw [HIN.out])
                    | (go_at_call 84; refine (r04_before_any M P _ _ _ (HM9.out.mono exq) (HRP.out.mono exq)).mono ?_; rintro e w' ⟨rfl, X9, rfl⟩; rw [HBF.out]))
                  go_roundw
                  case rel => exact ⟨k + 1, P, W, q, c, by omega, by go_num, rfl, rfl, HBI2, Lib.hid (HRP.out.mono exq), exq⟩
                  case measure => simp [intOf]; omega
      · have hkN : k = N := by omega
        rcases HBI.out with ⟨hb, hP, hW⟩ | ⟨ch, hb, hP, hW, hw0⟩
        · rw [hkN] at hb
          subst hP hW
          have HB9 := Lib.hid hb
          clear hb
          clear hkN
          go_wp2_with fail
          go_ret2
          rw [HB9.out]
          exact ⟨_, rfl, IsRow.nil _, (exf hwW)⟩
        · rw [hkN] at hb
          rw [← hW] at hw0
          have hn1 : decide (W < 0) = false := by simp; omega
          have HB9 := Lib.hid hb
          clear hb
          have HP9 := Lib.hid hP
          clear hP
          clear hkN hW
          go_wp2_with fail
          go_ret2
          rw [HB9.out]
          exact ⟨_, rfl, by rw [show (outC (some ch)).1 = P from HP9.out.symm]; exact HRP.out.mono exq, (exf hwW)⟩
  · rw [ballast_err hz]
    have hc := check_three (ts.map Prod.fst) g
    rcases hc with hc | hc | hc
    · exact absurd hc hz
    all_goals
      rw [hc]
      have HE := Lib.hid hc
      clear hc
      clear hz
      go_enter Tryz.func50, Tryz.ntmps50
      go_wp2_with (go_at_call 66; refine (r04_Check_any ts _ g _ _ _ _ (HB.out.mono exq) (HG.out.l.mono exq) (HG.out.r.mono exq) (HG.out.s.mono exq)).mono ?_; rintro e w' ⟨rfl, X2, rfl⟩; rw [HE.out])
      go_ret2
      exact ⟨_, rfl, IsRow.nil _, exq⟩
end Go.Proofs.YtihkmkocgmkcjaaGreatDoor

/-
  Walks of package scale: what is known of a total that was weighed twice.
-/
namespace Go.Proofs.YtihkmkocgmkcjaaGreatDoor
open Go.RowKit Kr
set_option linter.unusedSimpArgs false

theorem row_appended {α : Type} {enc : α → List Value} {k base : Nat} {W w' : World} {v out out' : Value} {xs : List α} (h : IsRow enc k W v xs) (ha : AppendedW W w' out out' base) (hne : ∀ b, v.ownBlock = some b → out.ownBlock ≠ some b) : IsRow enc k w' v xs := by
  obtain ⟨p, b, o, cap, rfl, hm, hp, hc⟩ := h.ex
  refine ⟨p, b, o, cap, rfl, hm, fun h0 => ⟨(hp h0).1, ⟨Nat.lt_of_lt_of_le (hp h0).2.lt ha.size⟩⟩, fun i x hx j u hu => ?_⟩
  have h0 : 0 < xs.length := by have := (List.getElem?_eq_some_iff.1 hx).1; omega
  obtain ⟨rfl, hl⟩ := hp h0
  have hb := ha.block b hl.lt (fun e => hne b rfl e.symm)
  have h1 := hc i x hx j u hu
  unfold World.cell? at h1 ⊢
  rw [hb]
  exact h1
theorem own_lt {α : Type} {enc : α → List Value} {k : Nat} {W : World} {v : Value} {xs : List α} (h : IsRow enc k W v xs) (h0 : 0 < xs.length) {b : Nat} (hb : v.ownBlock = some b) : b < W.heap.size := by
  obtain ⟨p, b', o, cap, rfl, hm, hp, hc⟩ := h.ex
  obtain ⟨rfl, hl⟩ := hp h0
  simp [Value.ownBlock] at hb
  subst hb
  exact hl.lt

theorem gears2 {w : World} {x y : GearV} (hx : GearAt w x) (hy : GearAt w y) : ∀ z ∈ [x, y], GearAt w z := fun z hz => by
  simp only [List.mem_cons, List.not_mem_nil, or_false] at hz
  rcases hz with rfl | rfl
  · exact hx
  · exact hy

end Go.Proofs.YtihkmkocgmkcjaaGreatDoor

/-
  Walks of package scale: which pieces are added.
-/
namespace Go.Proofs.YtihkmkocgmkcjaaGreatDoor
open Go.RowKit Kr
set_option linter.unusedSimpArgs false

/-- The choices of the first sets, with their rows: an own row. -/
def ChosAt (n : Norm) (T : List Span) (pieces : List Int) (base k : Nat) (wr : World) (v : Value) : Prop :=
  ∃ l : List (Choice × Value), l.map Prod.fst = choices n T pieces k ∧ wr.ownsRow base 164 2 v l.length (l.flatMap fun x => [.int .i64 x.1.weight, x.2]) ∧ ∀ x ∈ l, IsRow (fun x : Nat => [.int .i64 (x : Int)]) 1 wr x.2 x.1.pieces ∧ (∀ b, x.2.ownBlock = some b → b < wr.heap.size ∧ v.ownBlock ≠ some b) ∧ 0 ≤ x.1.weight ∧ x.1.weight ≤ 8000000
theorem ChosAt.keep {n : Norm} {T : List Span} {pieces : List Int} {base k : Nat} {wr wr' : World} {v : Value} (h : ChosAt n T pieces base k wr v) (hs : choices n T pieces (k + 1) = choices n T pieces k) (hE : wr.Exts wr') : ChosAt n T pieces base (k + 1) wr' v := by
  obtain ⟨l, h1, h2, h3⟩ := h
  exact ⟨l, h1.trans hs.symm, ownsRow_exts h2 hE, fun x hx => ⟨(h3 x hx).1.mono hE, fun b hb => ⟨Nat.lt_of_lt_of_le ((h3 x hx).2.1 b hb).1 hE.size, ((h3 x hx).2.1 b hb).2⟩, (h3 x hx).2.2⟩⟩

theorem row_two (w : World) (a b : Int) : IsRow (fun x : Int => [.int .i64 x]) 1 (w.alloc (.cells #[.int .i64 a, .int .i64 b] 3)) (.slice (some ⟨w.heap.size, 0, none⟩) 2 2) [a, b] := by
  refine ⟨some ⟨w.heap.size, 0, none⟩, w.heap.size, 0, 2, rfl, by simp, fun _ => ⟨rfl, lays_new _ _⟩, fun i x h j u hj => ?_⟩
  rcases j with _ | j <;> simp at hj
  subst hj
  rcases i with _ | _ | i <;> simp at h
  all_goals
    subst h
    rw [World.cell?_alloc_new]
    rfl

theorem choices_len (n : Norm) (T : List Span) (pieces : List Int) (k : Nat) : (choices n T pieces k).length ≤ k := by
  unfold choices
  exact Nat.le_trans (List.length_filter_le _ _) (by simp)
theorem elem_choice : ElemOf Tryz.prog 162 164 (.agg #[.int .i64 0, .slice none 0 0]) 2 32 := ⟨Tryz.underlying162, by kernel_rfl, rfl, by decide, by decide⟩

theorem field_choice (z : Int) (p : Option Addr) (m c : Nat) (W : World) : (Sem.run Tryz.prog (Instr.field 164 (.agg #[.int .i64 z, .slice p m c]) 1)) W = .ok (.slice p m c) W := by kernel_rfl
attribute [local go_sem] field_choice

theorem ChosAt.add {n : Norm} {T : List Span} {pieces : List Int} {base k : Nat} {W w' : World} {v v' vp : Value} {wt : Int} {L : List Nat} {l : List (Choice × Value)}
    (h1 : l.map Prod.fst = choices n T pieces k) (h3 : ∀ x ∈ l, IsRow (fun x : Nat => [.int .i64 (x : Int)]) 1 W x.2 x.1.pieces ∧ (∀ b, x.2.ownBlock = some b → b < W.heap.size ∧ v.ownBlock ≠ some b) ∧ 0 ≤ x.1.weight ∧ x.1.weight ≤ 8000000)
    (hs : choices n T pieces (k + 1) = choices n T pieces k ++ [⟨wt, L⟩]) (hw : 0 ≤ wt ∧ wt ≤ 8000000) (hown : w'.ownsRow base 164 2 v' (l.length + 1) ((l.flatMap fun x => [.int .i64 x.1.weight, x.2]) ++ [.int .i64 wt, vp])) (ha : AppendedW W w' v v' base)
    (hr : IsRow (fun x : Nat => [.int .i64 (x : Int)]) 1 W vp L) (hb : ∀ b, vp.ownBlock = some b → b < W.heap.size ∧ v.ownBlock ≠ some b) (hsz : W.heap.size ≤ w'.heap.size) : ChosAt n T pieces base (k + 1) w' v' := by
  refine ⟨l ++ [(⟨wt, L⟩, vp)], by rw [List.map_append, h1, hs]; rfl, by simpa using hown, fun x hx => ?_⟩
  have hx' : IsRow (fun x : Nat => [.int .i64 (x : Int)]) 1 W x.2 x.1.pieces ∧ (∀ b, x.2.ownBlock = some b → b < W.heap.size ∧ v.ownBlock ≠ some b) ∧ 0 ≤ x.1.weight ∧ x.1.weight ≤ 8000000 := by
    rcases List.mem_append.1 hx with hx | hx
    · exact h3 x hx
    · rw [List.mem_singleton.1 hx]; exact ⟨hr, hb, hw⟩
  obtain ⟨a1, a2, a3⟩ := hx'
  exact ⟨row_appended a1 ha fun b e => (a2 b e).2, fun b e => ⟨Nat.lt_of_lt_of_le (a2 b e).1 hsz, ha.beside b (a2 b e).1 (a2 b e).2⟩, a3⟩

/-- A store into a box of numbers leaves a hall. -/
theorem hallAt_set {W : World} {b : Nat} {v : Value} {ts : List (Kr.Scale × Value)} {a : Addr} {u : Value} {z : Int} (h : HallAt Tryz.prog 3 W b v ts) (hb : BayAt (W.setCell a u) v ts) (hc : W.cell? ⟨a.block, 1, none⟩ = some (.int .i64 z)) : HallAt Tryz.prog 3 (W.setCell a u) b v ts := by
  obtain ⟨m, D, h1, h2, h3, h4⟩ := h.ex
  have hba : a.block ≠ b := fun e => by
    rw [e, h2] at hc
    cases hc
  have hma : m ≠ a.block := fun e => by
    obtain ⟨es, clock, hm, _⟩ := h3
    rw [e] at hm
    simp [World.cell?, hm] at hc
  refine ⟨⟨m, D, ?_, ?_, h3.setCell hma u, h4⟩, hb⟩
  · rw [World.cell?_setCell_other W _ _ u (fun e => hba (by rw [e]))]; exact h1
  · rw [World.cell?_setCell_other W _ _ u (fun e => hba (by rw [e]))]; exact h2

set_option maxRecDepth 4000 in
set_option maxHeartbeats 4000000 in
theorem scale_Ballast_any (ts : List (Kr.Scale × Value)) (v : Value) (g : Gear) (lv rv sv : Value) (n : Norm) (pieces : List Int) (pv : Value) (w : World) (hb : BayAt w v ts) (hg : GearAt w (g, lv, rv, sv)) (hp : IsRow (fun x : Int => [.int .i64 x]) 1 w pv pieces) :
    Calls Tryz.prog 49 #[.agg #[v], .agg #[lv, .int .i64 g.added, .int .i64 g.base, .int .i64 g.jitter, rv, sv, .int .i64 g.spread, .bool g.stamp], .agg #[.int .i64 n.total.lo, .int .i64 n.total.hi, .int .i64 n.added, .int .i64 n.warm, .int .i64 n.hard.lo, .int .i64 n.hard.hi, .bool n.stamp], pv] w fun e w' => ∃ vp, e = .returned (.tuple #[vp, .int .i64 (ballastR (ts.map Prod.fst) g n pieces).2]) ∧ IsRow (fun x : Nat => [.int .i64 (x : Int)]) 1 w' vp (ballastR (ts.map Prod.fst) g n pieces).1 ∧ w.Exts w' := by
  have he : askErr ts [(g, lv, rv, sv)] = check (ts.map Prod.fst) g := by unfold askErr check; simp
  obtain ⟨p, cap, hv⟩ := hb.row.len
  subst hv
  obtain ⟨qp, cp, rfl⟩ := hp.len
  have hl1 := hg.l
  have hl2 := hg.r
  have hl3 := hg.s
  dsimp only at hl1 hl2 hl3
  obtain ⟨p1, cap1, rfl⟩ := hl1.len
  obtain ⟨p2, cap2, rfl⟩ := hl2.len
  obtain ⟨p3, cap3, rfl⟩ := hl3.len
  have HG := Lib.hid hg
  clear hg
  have HB := Lib.hid hb
  clear hb
  have HP := Lib.hid hp
  clear hp
  clear hl1 hl2 hl3
  by_cases hz : check (ts.map Prod.fst) g = 0
  · obtain ⟨hga, hn, hrt⟩ := gearAsk (check_added0 hz)
    rw [hz] at he
    cases hnb : normB n
    · rw [ballast_norm hz hnb]
      have HN := Lib.hid hnb
      clear hnb
      have HE := Lib.hid he
      clear he
      clear hga hrt
      go_enter Tryz.func49, Tryz.ntmps49
      go_wp2_with (first
        | (go_at_call 61; refine (scale_asked_any ts _ [(g, _, _, _)] _ _ (HB.out.mono exq) (row_gear1 _ (g, _, _, _) _ (by simp)) (fun y hy => by rw [List.mem_singleton.1 hy]; exact HG.out.mono exq)).mono ?_; rintro e w' ⟨pp, rfl, hy, X2, rfl⟩; obtain ⟨_, bb, rfl, hh⟩ := hy HE.out; rw [HE.out]; have HH := Lib.hid hh; clear hh hy)
        | (go_at_call 62; refine (scale_normal_any n _).mono ?_; rintro e w' ⟨rfl, X3, rfl⟩; rw [HN.out])
        | (go_at_call 77; refine (scale_in_any 0 1000000 _ pieces _ (HP.out.mono exq)).mono ?_; rintro e w' ⟨rfl, X4, rfl⟩; rw [HPC.out])
        | (go_at_call 63; refine (hall_totals_any ts _ { g with added := 0 } _ _ _ _ _ (hallAt_set (z := g.added) (HH.out.mono exq) (HB.out.mono exq) (by simp [go_sem])) (HG0.out.mono exq) hn HRT.out h6 HSH.out ad).mono ?_; rw [HD.out]; rintro e w' ⟨vt, rfl, ht, X5, rfl⟩; obtain ⟨qt, ct, rfl⟩ := ht.len; have HT := Lib.hid ht; clear ht))
      go_ret2
      exact ⟨_, rfl, IsRow.nil _, exq⟩
    rcases Nat.lt_or_ge 8 pieces.length with h8 | h8
    · rw [ballast_arg hz hnb (by rw [show decide (pieces.length ≤ 8) = false by simp; omega]; simp)]
      have HN := Lib.hid hnb
      clear hnb
      have HE := Lib.hid he
      clear he
      clear hga hrt
      go_enter Tryz.func49, Tryz.ntmps49
      go_wp2_with (first
        | (go_at_call 61; refine (scale_asked_any ts _ [(g, _, _, _)] _ _ (HB.out.mono exq) (row_gear1 _ (g, _, _, _) _ (by simp)) (fun y hy => by rw [List.mem_singleton.1 hy]; exact HG.out.mono exq)).mono ?_; rintro e w' ⟨pp, rfl, hy, X2, rfl⟩; obtain ⟨_, bb, rfl, hh⟩ := hy HE.out; rw [HE.out]; have HH := Lib.hid hh; clear hh hy)
        | (go_at_call 62; refine (scale_normal_any n _).mono ?_; rintro e w' ⟨rfl, X3, rfl⟩; rw [HN.out])
        | (go_at_call 77; refine (scale_in_any 0 1000000 _ pieces _ (HP.out.mono exq)).mono ?_; rintro e w' ⟨rfl, X4, rfl⟩; rw [HPC.out])
        | (go_at_call 63; refine (hall_totals_any ts _ { g with added := 0 } _ _ _ _ _ (hallAt_set (z := g.added) (HH.out.mono exq) (HB.out.mono exq) (by simp [go_sem])) (HG0.out.mono exq) hn HRT.out h6 HSH.out ad).mono ?_; rw [HD.out]; rintro e w' ⟨vt, rfl, ht, X5, rfl⟩; obtain ⟨qt, ct, rfl⟩ := ht.len; have HT := Lib.hid ht; clear ht))
      go_ret2
      exact ⟨_, rfl, IsRow.nil _, exq⟩
    cases hpc : inAll 0 1000000 pieces
    · rw [ballast_arg hz hnb (by rw [hpc]; rfl)]
      have HN := Lib.hid hnb
      clear hnb
      have HE := Lib.hid he
      clear he
      have HPC := Lib.hid hpc
      clear hpc
      clear hga hrt
      go_enter Tryz.func49, Tryz.ntmps49
      go_wp2_with (first
        | (go_at_call 61; refine (scale_asked_any ts _ [(g, _, _, _)] _ _ (HB.out.mono exq) (row_gear1 _ (g, _, _, _) _ (by simp)) (fun y hy => by rw [List.mem_singleton.1 hy]; exact HG.out.mono exq)).mono ?_; rintro e w' ⟨pp, rfl, hy, X2, rfl⟩; obtain ⟨_, bb, rfl, hh⟩ := hy HE.out; rw [HE.out]; have HH := Lib.hid hh; clear hh hy)
        | (go_at_call 62; refine (scale_normal_any n _).mono ?_; rintro e w' ⟨rfl, X3, rfl⟩; rw [HN.out])
        | (go_at_call 77; refine (scale_in_any 0 1000000 _ pieces _ (HP.out.mono exq)).mono ?_; rintro e w' ⟨rfl, X4, rfl⟩; rw [HPC.out])
        | (go_at_call 63; refine (hall_totals_any ts _ { g with added := 0 } _ _ _ _ _ (hallAt_set (z := g.added) (HH.out.mono exq) (HB.out.mono exq) (by simp [go_sem])) (HG0.out.mono exq) hn HRT.out h6 HSH.out ad).mono ?_; rw [HD.out]; rintro e w' ⟨vt, rfl, ht, X5, rfl⟩; obtain ⟨qt, ct, rfl⟩ := ht.len; have HT := Lib.hid ht; clear ht))
      go_ret2
      exact ⟨_, rfl, IsRow.nil _, exq⟩
    have hpc' : (inAll 0 1000000 pieces && decide (pieces.length ≤ 8)) = true := by simp [hpc, h8]
    obtain ⟨h6, sh, ad, neat, win, _⟩ := hga
    generalize hd : totals (ts.map Prod.fst) { g with added := 0 } = T at neat win
    have hg0 : GearAt w ({ g with added := 0 }, .slice p1 g.loads.length cap1, .slice p2 g.runners.length cap2, .slice p3 g.strokes.length cap3) := ⟨HG.out.l, HG.out.r, HG.out.s, HG.out.len, HG.out.wf⟩
    rcases T with _ | ⟨s0, sr⟩
    · rw [ballast_none hz hnb hpc' hd]
      have HN := Lib.hid hnb
      clear hnb
      have HE := Lib.hid he
      clear he
      have HPC := Lib.hid hpc
      clear hpc
      have HD := Lib.hid hd
      clear hd
      have HG0 := Lib.hid hg0
      clear hg0
      have HRT := Lib.hid hrt
      clear hrt
      have HSH := Lib.hid sh
      clear sh
      go_enter Tryz.func49, Tryz.ntmps49
      go_wp2_with (first
        | (go_at_call 61; refine (scale_asked_any ts _ [(g, _, _, _)] _ _ (HB.out.mono exq) (row_gear1 _ (g, _, _, _) _ (by simp)) (fun y hy => by rw [List.mem_singleton.1 hy]; exact HG.out.mono exq)).mono ?_; rintro e w' ⟨pp, rfl, hy, X2, rfl⟩; obtain ⟨_, bb, rfl, hh⟩ := hy HE.out; rw [HE.out]; have HH := Lib.hid hh; clear hh hy)
        | (go_at_call 62; refine (scale_normal_any n _).mono ?_; rintro e w' ⟨rfl, X3, rfl⟩; rw [HN.out])
        | (go_at_call 77; refine (scale_in_any 0 1000000 _ pieces _ (HP.out.mono exq)).mono ?_; rintro e w' ⟨rfl, X4, rfl⟩; rw [HPC.out])
        | (go_at_call 63; refine (hall_totals_any ts _ { g with added := 0 } _ _ _ _ _ (hallAt_set (z := g.added) (HH.out.mono exq) (HB.out.mono exq) (by simp [go_sem])) (HG0.out.mono exq) hn HRT.out h6 HSH.out ad).mono ?_; rw [HD.out]; rintro e w' ⟨vt, rfl, ht, X5, rfl⟩; obtain ⟨qt, ct, rfl⟩ := ht.len; have HT := Lib.hid ht; clear ht))
      go_ret2
      exact ⟨_, rfl, IsRow.nil _, exq⟩
    rw [ballast_all hz hnb hpc' (by rw [hd]; simp), hd]
    obtain ⟨hnb1, hnb2⟩ := norm_bounds hnb
    have hpb : ∀ x ∈ pieces, 0 ≤ x ∧ x ≤ 1000000 := fun x hx => by
      have := List.all_eq_true.1 hpc x hx
      simpa [inb] using this
    have hpw := wrap_pow ⟨pieces.length, by omega⟩
    dsimp only at hpw
    have hN8 : 2 ^ pieces.length ≤ 256 := Nat.le_trans (Nat.pow_le_pow_right (by omega) h8) (by decide : 2 ^ 8 ≤ 256)
    generalize 2 ^ pieces.length = N at hpw hN8 ⊢
    have hz9 : (((sr.length : Int) + 1) == 0) = false := by rw [beq_eq_false_iff_ne]; omega
    have HN := Lib.hid hnb
    clear hnb
    have HE := Lib.hid he
    clear he
    have HPC := Lib.hid hpc
    clear hpc
    have HD := Lib.hid hd
    clear hd
    have HG0 := Lib.hid hg0
    clear hg0
    have HRT := Lib.hid hrt
    clear hrt
    have HSH := Lib.hid sh
    clear sh
    have HPB := Lib.hid hpb
    clear hpb
    clear hz hpc'
    have hd8 : decide (8 < (pieces.length : Int)) = false := by simp; omega
    go_enter Tryz.func49, Tryz.ntmps49
    go_wp2_with (first
      | (go_at_call 61; refine (scale_asked_any ts _ [(g, _, _, _)] _ _ (HB.out.mono exq) (row_gear1 _ (g, _, _, _) _ (by simp)) (fun y hy => by rw [List.mem_singleton.1 hy]; exact HG.out.mono exq)).mono ?_; rintro e w' ⟨pp, rfl, hy, X2, rfl⟩; obtain ⟨_, bb, rfl, hh⟩ := hy HE.out; rw [HE.out]; have HH := Lib.hid hh; clear hh hy)
      | (go_at_call 62; refine (scale_normal_any n _).mono ?_; rintro e w' ⟨rfl, X3, rfl⟩; rw [HN.out])
      | (go_at_call 77; refine (scale_in_any 0 1000000 _ pieces _ (HP.out.mono exq)).mono ?_; rintro e w' ⟨rfl, X4, rfl⟩; rw [HPC.out])
      | (go_at_call 63; refine (hall_totals_any ts _ { g with added := 0 } _ _ _ _ _ (hallAt_set (z := g.added) (HH.out.mono exq) (HB.out.mono exq) (by simp [go_sem])) (HG0.out.mono exq) hn HRT.out h6 HSH.out ad).mono ?_; rw [HD.out]; rintro e w' ⟨vt, rfl, ht, X5, rfl⟩; obtain ⟨qt, ct, rfl⟩ := ht.len; have HT := Lib.hid ht; clear ht))
    have hwW : w.Exts (World.ext _ X5) := exq
    have hPV : IsRow (fun x : Int => [.int .i64 x]) 1 (World.ext _ X5) (.slice qp pieces.length cp) pieces := HP.out.mono exq
    have hTV := HT.out
    have b60 : (World.ext _ X5).cell? ⟨w.heap.size + 1 + 1, 0, none⟩ = some (.int .i64 n.total.lo) := by simp [go_sem]
    have b61 : (World.ext _ X5).cell? ⟨w.heap.size + 1 + 1, 1, none⟩ = some (.int .i64 n.total.hi) := by simp [go_sem]
    have b62 : (World.ext _ X5).cell? ⟨w.heap.size + 1 + 1, 2, none⟩ = some (.int .i64 n.added) := by simp [go_sem]
    clear HT HH
    generalize World.ext _ X5 = V at *
    have n6 := Lays.of_cell b60
    obtain ⟨pt, bt, ot, ct', et, hmt, hpt, hct⟩ := hTV.ex
    simp only [List.length_cons] at et hmt
    cases et
    obtain ⟨rfl, hlt9⟩ := hpt (by simp)
    have c00 := hct 0 s0 rfl 0 _ rfl
    obtain ⟨sl, hsl⟩ := some_of_lt (xs := s0 :: sr) (k := sr.length) (by simp)
    have cl1 := hct sr.length sl hsl 1 _ rfl
    simp only [Nat.zero_mul, Nat.add_zero] at c00
    have hfc : ∀ c, fitsC n (s0 :: sr) c = (decide (c.weight ≤ n.added) && inAll n.total.lo n.total.hi [s0.lo + c.weight, sl.hi + c.weight]) := fun c => by unfold fitsC; rw [getLastD_at hsl (by simp)]; rfl
    have hs1 := win s0 (List.mem_cons_self ..)
    have hs2 := win sl (List.mem_of_getElem? hsl)
    have hs3 := neat.1 s0 (List.mem_cons_self ..)
    have hs4 := neat.1 sl (List.mem_of_getElem? hsl)
    obtain ⟨pp9, bp, op, cp', ep, hmp, hpp9, hcp⟩ := hPV.ex
    cases ep
    have HFC := Lib.hid hfc
    clear hfc
    have HPP := Lib.hid hpp9
    clear hpp9
    have HCP := Lib.hid hcp
    clear hcp
    clear hTV hpt hct hsl neat win hPV
    rw [hpw]
    go_loopw [13, 49] (fun al i wr => ∃ k : Nat, k ≤ N ∧ i = .int .i64 k ∧ Hid (ChosAt n (s0 :: sr) pieces V.heap.size k wr al) ∧ V.Exts wr) (fun _ i _ => N - (intOf i).toNat)
    case atStart => exact ⟨0, Nat.zero_le _, rfl, Lib.hid ⟨[], rfl, World.ownsRow_nil _ _ _ _, fun x hx => by simp at hx⟩, World.Exts.refl _⟩
    case round =>
      obtain ⟨k, hk, rfl, HCH, hE⟩ := hrel
      obtain ⟨X, rfl⟩ := hE
      by_cases hlt : k < N
      · have hk256 : k < 256 := by omega
        go_wp2_with fail
        go_loopw [54] (fun j wr => ∃ (m : Nat) (vp : Value), m ≤ pieces.length ∧ j = .int .i64 m ∧ Hid (LaysAs wr (V.ext X).heap.size (.cells [.int .i64 (weighN pieces (membersN k m)), vp].toArray 164 (0, 0))) ∧ Hid (wr.ownsRow ((V.ext X).heap.size + 1) 3 1 vp (membersN k m).length (natCs (membersN k m))) ∧ (V.ext X).Exts wr) (fun j _ => pieces.length - (intOf j).toNat)
        case atStart => exact ⟨0, .slice none 0 0, Nat.zero_le _, rfl, Lib.hid (LaysAs.new (V.ext X) (.cells #[.int .i64 0, .slice none 0 0] 164)), Lib.hid (World.ownsRow_nil _ _ _ _), exq⟩
        case round =>
          obtain ⟨m, vp, hm, rfl, HL, HO, hE9⟩ := hrel
          have hlt0 := LaysAs.lt HL.out
          have e0 := LaysAs.cell HL.out 0 _ rfl
          have e1 := LaysAs.cell HL.out 1 _ rfl
          have f0 : wr.frozen? ⟨(V.ext X).heap.size, 0, none⟩ = false := laysAs_frozen' HL.out
          have f1 : wr.frozen? ⟨(V.ext X).heap.size, 1, none⟩ = false := laysAs_frozen' HL.out
          have hle := Lays.of_cell e0
          by_cases hlt2 : m < pieces.length
          · obtain ⟨rfl, hl8⟩ := HPP.out (by omega)
            obtain ⟨y, hy⟩ := some_of_lt hlt2
            have hds := (World.Exts.trans ⟨X, rfl⟩ hE9 : V.Exts wr).cell (HCP.out m y hy 0 _ rfl)
            simp only [Nat.mul_one, Nat.add_zero] at hds
            have hld := Lays.of_cell hds
            have hlen := membersN_len k m
            have hnx := membersN_succ k m
            have hwx : weighN pieces [m] = y := by unfold weighN; simp [List.getD_eq_getElem?_getD, hy]
            have hwb := weighN_bound HPB.out (membersN k m)
            have hyb := HPB.out y (List.mem_of_getElem? hy)
            have hbit := bit_at ⟨k, hk256⟩ ⟨m, by omega⟩
            dsimp only at hbit
            generalize membersN k m = L at hlen hnx hwb HL HO e0 ⊢
            cases hb : k.testBit m
            · rw [hb] at hnx hbit
              simp only [Bool.false_eq_true, if_false] at hbit hnx
              rw [List.append_nil] at hnx
              have HNX := Lib.hid hnx
              clear hnx
              clear hb hy
              go_wp2_with fail
              go_roundw
              case rel => exact ⟨m + 1, vp, by omega, by go_num, Lib.hid (by rw [HNX.out]; exact HL.out.exts exq), Lib.hid (by rw [HNX.out]; exact ownsRow_exts HO.out exq), (exf hE9)⟩
              case measure => simp [intOf]; omega
            · rw [hb] at hnx hbit
              simp only [if_true] at hbit hnx
              have HNX := Lib.hid hnx
              clear hnx
              clear hb hy
              go_wp2_with (at_builtin; refine wpList_append1W (.tmp 65) (.tmp 67) elem_intN rfl rfl rfl (ownsRow_exts HO.out exq) [.int .i64 (m : Int)] _ (by simp) rfl rfl ?h1 ?h2 ?h4 ?h3 ?_)
              case h1 => first | rfl | (intro u hu; simp at hu; subst hu; rfl)
              case h2 => omega
              try (case h4 => decide)
              case h3 => first | omega | (simp <;> omega)
              intro v' w' hown' happ
              obtain ⟨q9, c9, hv9⟩ := owns_len hown'
              subst hv9
              have hE8 := happ.exts (V.ext X) (exf hE9) (by omega)
              have hne : vp.ownBlock ≠ some (V.ext X).heap.size := fun e => by have := (HO.out.lt _ e).1; omega
              have hLA := (LaysAs.appended (HL.out.exts exq) happ hne).1
              have r0 := LaysAs.cell hLA 0 _ rfl
              have r1 := LaysAs.cell hLA 1 _ rfl
              have s0' : w'.frozen? ⟨(V.ext X).heap.size, 0, none⟩ = false := laysAs_frozen' hLA
              have s1' : w'.frozen? ⟨(V.ext X).heap.size, 1, none⟩ = false := laysAs_frozen' hLA
              have hlr := Lays.of_cell r0
              have hfl := LaysAs.set (i := 0) (LaysAs.set (i := 1) hLA (.slice q9 (L.length + 1) c9)) (.int .i64 (weighN pieces L + y))
              have hfo := (hown'.set (p := ⟨(V.ext X).heap.size, 1, none⟩) (by dsimp only; omega) (.slice q9 (L.length + 1) c9)).set (p := ⟨(V.ext X).heap.size, 0, none⟩) (by dsimp only; omega) (.int .i64 (weighN pieces L + y))
              have HE8 := Lib.hid hE8
              clear hE8
              have HFL := Lib.hid hfl
              clear hfl
              have HFO := Lib.hid hfo
              clear hfo
              clear happ hown' hLA
              go_wp2_with fail
              go_roundw
              case rel => exact ⟨m + 1, _, by omega, by go_num, Lib.hid (by rw [HNX.out, weighN_append, hwx]; exact HFL.out), Lib.hid (by rw [HNX.out, natCs_snoc, List.length_append]; exact HFO.out), (HE8.out.setCell (Nat.le_refl _) _).setCell (Nat.le_refl _) _⟩
              case measure => simp [intOf]; omega
          · have hmm : m = pieces.length := by omega
            subst hmm
            have hVw : V.Exts wr := World.Exts.trans ⟨X, rfl⟩ hE9
            have d60 := hVw.cell b60
            have d61 := hVw.cell b61
            have d62 := hVw.cell b62
            have d00 := hVw.cell c00
            have dl1 := hVw.cell cl1
            have l60 := Lays.of_cell d60
            have l00 := Lays.of_cell d00
            have hwb := weighN_bound HPB.out (membersN k pieces.length)
            have hlen := membersN_len k pieces.length
            have hfx := HFC.out (choiceOf pieces k)
            have hsx := choices_succ n (s0 :: sr) pieces k
            have hcp : membersN k pieces.length = (choiceOf pieces k).pieces := rfl
            have hcw : weighN pieces (membersN k pieces.length) = (choiceOf pieces k).weight := rfl
            rw [hcw] at HL e0 hwb
            rw [hcp] at HO hwb hlen
            clear hcp hcw
            generalize choiceOf pieces k = c at hwb hlen hfx hsx HL HO e0
            obtain ⟨wt, L⟩ := c
            dsimp only at hwb hlen hfx hsx HL HO e0
            have hw8 : 0 ≤ wt ∧ wt ≤ 8000000 := ⟨hwb.1, by omega⟩
            clear hwb hlen
            cases hle9 : decide (wt ≤ n.added)
            · rw [hle9, Bool.false_and] at hfx
              rw [hfx] at hsx
              simp only [Bool.false_eq_true, if_false, List.append_nil] at hsx
              have HSX := Lib.hid hsx
              clear hsx
              clear hfx
              go_wp2_with fail
              refine wp_region_ext (by kernel_rfl) (by kernel_rfl) ?_
              repeat (go_big_quiet_step (fail))
              refine wpQuiet_nil ?_
              rintro _ ⟨X, rfl⟩
              go_wp2_with fail
              go_roundw
              case rel => exact ⟨k + 1, by omega, by go_num, Lib.hid (HCH.out.keep HSX.out (exf hE9)), World.Exts.trans hVw exq⟩
              case measure => simp [intOf]; omega
            · rw [hle9, Bool.true_and] at hfx
              have HFX := Lib.hid hfx
              clear hfx
              have HSX := Lib.hid hsx
              clear hsx
              go_wp2_with fail
              refine wp_region_callsG 31 (fun i => i == 29 || i == 30) (fun c v W => (c = 29 → IsRow (fun x : Int => [.int .i64 x]) 1 W v [s0.lo + wt, sl.hi + wt]) ∧ (c = 30 → v = .bool (inAll n.total.lo n.total.hi [s0.lo + wt, sl.hi + wt]))) (by kernel_rfl) (fun ν => by kernel_rfl) (by kernel_rfl) (by kernel_rfl) (by kernel_rfl) (by kernel_rfl) (by kernel_rfl) ?mono ?_
              rotate_left 1
              apply Exists.intro
              refine ⟨?want, fun ν L hL => ?walk, fun c oc hc hU ν W hE hΦ => ?calls, fun ν W hE hΦ => ?tail⟩
              case walk =>
                simp only [modU, cOp, List.mapIdx_cons, List.mapIdx_nil, Nat.zero_add, Nat.reduceAdd, Nat.reduceBEq, Bool.or_false, Bool.false_or, Bool.or_true, Bool.true_or, Bool.or_self, Bool.false_eq_true, if_false, if_true, List.take_succ_cons, List.take_zero]
                repeat (go_big_quiet_step (fail))
                exact wpQuiet_nil hL
              case want =>
                intro ν i oi hi hU
                simp at hU
                rcases hU with rfl | rfl
                all_goals
                  simp only [List.getElem?_cons_succ, List.getElem?_cons_zero, Option.some.injEq] at hi
                  subst hi
                  rfl
              case mono => exact fun c v W W' h hE => ⟨fun e => (h.1 e).mono hE, h.2⟩
              case calls =>
                simp at hU
                rcases hU with rfl | rfl
                · simp only [List.getElem?_cons_succ, List.getElem?_cons_zero, Option.some.injEq] at hc
                  subst hc
                  exact .inr ⟨.slice (some ⟨W.heap.size, 0, none⟩) 2 2, W.alloc (.cells #[.int .i64 (s0.lo + wt), .int .i64 (sl.hi + wt)] 3), by kernel_rfl, (World.Exts.refl W).alloc _, fun _ => row_two W _ _, fun e => (by cases e)⟩
                · simp only [List.getElem?_cons_succ, List.getElem?_cons_zero, Option.some.injEq] at hc
                  subst hc
                  have h29 := (hΦ 29 rfl ⟨⟨29, .data⟩, by simp, rfl, rfl⟩).1 rfl
                  refine Oper.gives_fn rfl rfl rfl (enters_of Tryz.func77 (by kernel_rfl) rfl) ?_ rfl
                  refine (scale_in_any n.total.lo n.total.hi (ν 29) _ W h29).mono ?_
                  rintro e W' ⟨rfl, h2⟩
                  exact ⟨_, rfl, h2, fun e => (by cases e), fun _ => rfl⟩
              case tail =>
                have h30 := (hΦ 30 (by decide) rfl).2 rfl
                simp only [List.drop_succ_cons, List.drop_zero]
                generalize ν 30 = v30 at h30 ⊢
                subst h30
                clear hΦ
                have hVW : V.Exts W := World.Exts.trans hVw hE
                have hXW : (V.ext X).Exts W := World.Exts.trans hE9 hE
                cases hin : inAll n.total.lo n.total.hi [s0.lo + wt, sl.hi + wt]
                · have hs9 : choices n (s0 :: sr) pieces (k + 1) = choices n (s0 :: sr) pieces k := by rw [HSX.out, HFX.out, hin]; simp
                  have HS9 := Lib.hid hs9
                  clear hs9
                  go_wp2_with fail
                  go_roundw
                  case rel => exact ⟨k + 1, by omega, by go_num, Lib.hid (HCH.out.keep HS9.out hXW), hVW⟩
                  case measure => simp [intOf]; omega
                · have hs9 : choices n (s0 :: sr) pieces (k + 1) = choices n (s0 :: sr) pieces k ++ [⟨wt, L⟩] := by rw [HSX.out, HFX.out, hin]; rfl
                  obtain ⟨qv, cv, hvp⟩ := owns_len HO.out
                  subst hvp
                  have g0 := hE.cell e0
                  have g1 := hE.cell e1
                  have g2 := Lays.of_cell g0
                  obtain ⟨l, hl1, hl2, hl3⟩ := HCH.out
                  have hlk : l.length ≤ k := by
                    have := choices_len n (s0 :: sr) pieces k
                    rw [← hl1, List.length_map] at this
                    exact this
                  have hsz := hVW.size
                  have hrW : IsRow (fun x : Nat => [.int .i64 (x : Int)]) 1 W (.slice qv L.length cv) L := (IsRow.of_owns (enc := fun x : Nat => [.int .i64 (x : Int)]) (by simpa [natCs] using HO.out) (fun _ _ => rfl)).mono hE
                  have hl3' : ∀ x ∈ l, IsRow (fun x : Nat => [.int .i64 (x : Int)]) 1 W x.2 x.1.pieces ∧ (∀ b, x.2.ownBlock = some b → b < W.heap.size ∧ u13.ownBlock ≠ some b) ∧ 0 ≤ x.1.weight ∧ x.1.weight ≤ 8000000 := fun x hx => ⟨(hl3 x hx).1.mono hXW, fun b hb => ⟨Nat.lt_of_lt_of_le ((hl3 x hx).2.1 b hb).1 hXW.size, ((hl3 x hx).2.1 b hb).2⟩, (hl3 x hx).2.2⟩
                  have hbv : ∀ b, (Value.slice qv L.length cv).ownBlock = some b → b < W.heap.size ∧ u13.ownBlock ≠ some b := fun b hb => by
                    have h1 := HO.out.lt b hb
                    have h2 := hE.size
                    exact ⟨by omega, fun e => by have := hl2.lt b e; omega⟩
                  have hown0 := ownsRow_exts hl2 hXW
                  have HS9 := Lib.hid hs9
                  clear hs9
                  have HW0 := Lib.hid hown0
                  clear hown0
                  have HRW := Lib.hid hrW
                  clear hrW
                  have HL3 := Lib.hid hl3'
                  clear hl3'
                  have HBV := Lib.hid hbv
                  clear hbv
                  have HL1 := Lib.hid hl1
                  clear hl1
                  clear hl2 hl3
                  go_wp2_with (at_builtin; refine wpList_append1W (.tmp 108) (.tmp 110) elem_choice rfl rfl rfl HW0.out [.int .i64 wt, .slice qv L.length cv] _ (by simp) rfl rfl ?i1 ?i2 ?i4 ?i3 ?_)
                  case i1 => intro u hu; simp at hu; rcases hu with rfl | rfl <;> rfl
                  case i2 => omega
                  try (case i4 => decide)
                  case i3 => first | omega | (simp <;> omega)
                  intro v' w' hown' happ
                  have hE8 := happ.exts V hVW (by omega)
                  have hCH := ChosAt.add HL1.out HL3.out HS9.out hw8 hown' happ HRW.out HBV.out happ.size
                  have HE8 := Lib.hid hE8
                  clear hE8
                  have HCH2 := Lib.hid hCH
                  clear hCH
                  clear happ hown'
                  go_wp2_with fail
                  go_roundw
                  case rel => exact ⟨k + 1, by omega, by go_num, Lib.hid HCH2.out, HE8.out⟩
                  case measure => simp [intOf]; omega
      · have hkN : k = N := by omega
        obtain ⟨l, hl1, hl2, hl3⟩ := HCH.out
        have hbest : bestOf n (s0 :: sr) pieces N = (l.map Prod.fst).foldl better none := by rw [hl1, hkN]; rfl
        obtain ⟨qa, ca, hva⟩ := owns_len hl2
        subst hva
        have HBE := Lib.hid hbest
        clear hbest
        rcases Nat.eq_zero_or_pos l.length with h0 | h0
        · have hl0 : l = [] := List.length_eq_zero_iff.1 h0
          subst hl0
          have HL1 := Lib.hid hl1
          clear hl1
          clear hl2 hl3
          simp only [List.length_nil]
          go_wp2_with fail
          go_ret2
          rw [HBE.out]
          exact ⟨_, rfl, IsRow.nil _, World.Exts.trans hwW exq⟩
        · have hz0 : ((l.length : Int) == 0) = false := by rw [beq_eq_false_iff_ne]; omega
          have hCA : ChoicesAt (V.ext X) (.slice qa l.length ca) l := ⟨IsRow.of_owns hl2 (fun _ _ => rfl), fun x hx => (hl3 x hx).1⟩
          have hwl : ∀ x ∈ l, 0 ≤ x.1.weight ∧ x.1.weight ≤ 8000000 := fun x hx => (hl3 x hx).2.2
          have HCA := Lib.hid hCA
          clear hCA
          have HWL := Lib.hid hwl
          clear hwl
          have HL1 := Lib.hid hl1
          clear hl1
          clear hl2 hl3
          go_wp2_with (go_at_call 78; refine (MinFunc_choice_any l _ _ (HCA.out.mono exq) h0 HWL.out).mono ?_; rintro e w' ⟨mc, vm, rfl, hmc, hrm, X6, rfl⟩; obtain ⟨qm, cm, rfl⟩ := hrm.len; have HRM := Lib.hid hrm; have HMC := Lib.hid hmc; clear hrm hmc)
          go_ret2
          rw [HBE.out, HMC.out]
          exact ⟨_, rfl, HRM.out.mono exq, World.Exts.trans hwW exq⟩
  · rw [ballast_err hz]
    have hc := check_three (ts.map Prod.fst) g
    rcases hc with hc | hc | hc
    · exact absurd hc hz
    all_goals
      rw [hc] at he ⊢
      have HE := Lib.hid he
      clear he
      clear hc hz
      go_enter Tryz.func49, Tryz.ntmps49
      go_wp2_with (go_at_call 61; refine (scale_asked_any ts _ [(g, _, _, _)] _ _ (HB.out.mono exq) (row_gear1 _ (g, _, _, _) _ (by simp)) (fun y hy => by rw [List.mem_singleton.1 hy]; exact HG.out.mono exq)).mono ?_; rintro e w' ⟨pp, rfl, -, X2, rfl⟩; rw [HE.out])
      go_ret2
      exact ⟨_, rfl, IsRow.nil _, exq⟩
end Go.Proofs.YtihkmkocgmkcjaaGreatDoor
