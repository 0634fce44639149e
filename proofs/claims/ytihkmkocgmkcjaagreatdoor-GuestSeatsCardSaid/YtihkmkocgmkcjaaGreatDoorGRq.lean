/-
  Several texts in one: see the heads of its parts.
-/
import Derived.Test.YtihkmkocgmkcjaaGreatDoorGk
import Derived.Test.YtihkmkocgmkcjaaGreatDoorGf
import Derived.Test.YtihkmkocgmkcjaaGreatDoorJb
import Derived.Test.YtihkmkocgmkcjaaGreatDoorCallsK

/-
  Walks of package guest: Index, Contains; right.
-/
namespace Go.Proofs.YtihkmkocgmkcjaaGreatDoor
open Go.RowKit Kr
set_option linter.unusedSimpArgs false
set_option linter.unusedVariables false

set_option maxHeartbeats 400000 in
theorem Index_int_any (xs : List Int) (n : Int) (v : Value) (w : World) (hrow : IsRow (fun x : Int => [.int .i64 x]) 1 w v xs) :
    Calls Tryz.prog 56 #[v, .int .i64 n] w fun e w' => e = .returned (.int .i64 (firstAt (fun y => y == n) xs)) ∧ w.Exts w' := by
  obtain ⟨q, b, o, cap, rfl, hm, hq, hc⟩ := hrow.ex
  have HC := Lib.hid hc
  clear hc
  have HQ := Lib.hid hq
  clear hq
  clear hrow
  go_enter Tryz.func56, Tryz.ntmps56
  go_wp2_with fail
  go_loopw [5, 8] (fun _ i wr => ∃ k : Nat, k ≤ xs.length ∧ i = .int .i64 k ∧ Hid (∀ y ∈ xs.take k, (y == n) = false) ∧ w.Exts wr) (fun _ i _ => xs.length - (intOf i).toNat)
  case atStart => exact ⟨0, Nat.zero_le _, rfl, Lib.hid (fun y hy => by simp at hy), World.Exts.refl _⟩
  case round =>
    obtain ⟨k, hk, rfl, HA, X, rfl⟩ := hrel
    by_cases hlt : k < xs.length
    · obtain ⟨rfl, hl⟩ := HQ.out (by omega)
      obtain ⟨x, hx⟩ := some_of_lt hlt
      have hcs := HC.out k x hx
      have c0 := hcs 0 _ rfl
      simp only [Nat.mul_one, Nat.add_zero] at c0
      have HX := Lib.hid hx
      clear hx HQ HC hcs
      cases hp : x == n with
      | true =>
        have HP := Lib.hid hp
        have hp1 : n = x := by have h9 := hp; simp at h9; exact h9.symm
        clear hp
        go_wp2_with fail
        go_ret
        exact ⟨by rw [firstAt_hit HX.out HP.out HA.out]; rfl, exq⟩
      | false =>
        have HP := Lib.hid hp
        have hp1 : decide (n = x) = false := by have h9 := hp; simp at h9; simpa using fun e => h9 e.symm
        have hp2 : (n == x) = false := by have h9 := hp; simp at h9; simpa using fun e => h9 e.symm
        clear hp
        go_wp2_with fail
        go_roundw
        case rel => exact ⟨k + 1, by omega, by go_num, Lib.hid (by rw [take_snoc HX.out]; intro y hy; rcases List.mem_append.1 hy with h | h; exact HA.out y h; rw [List.mem_singleton.1 h]; exact HP.out), exq⟩
        case measure => simp [intOf]; omega
    · have hkn : k = xs.length := by omega
      have hA := HA.out
      rw [hkn, List.take_length] at hA
      have HA' := Lib.hid hA
      clear hA hkn
      go_wp2_with fail
      go_ret
      exact ⟨by rw [firstAt_miss HA'.out]; rfl, exq⟩

set_option maxHeartbeats 400000 in
theorem Contains_int_any (xs : List Int) (n : Int) (v : Value) (w : World) (hrow : IsRow (fun x : Int => [.int .i64 x]) 1 w v xs) :
    Calls Tryz.prog 33 #[v, .int .i64 n] w fun e w' => e = .returned (.bool (xs.any fun y => y == n)) ∧ w.Exts w' := by
  go_enter Tryz.func33, Tryz.ntmps33
  go_wp2_with (go_at_call 56; refine (Index_int_any xs n v _ hrow).mono ?_; rintro e w' ⟨rfl, X2, rfl⟩)
  go_ret
  exact ⟨by rw [← firstAt_nonneg]; rfl, exq⟩

theorem inAll_one (lo hi x : Int) : inAll lo hi [x] = inb lo hi x := by simp [inAll]

theorem run_extract_of {P : Program} {ρ : Operand → Value} {o : Oper} {W : World} {x : Operand} {i : Nat} {cs : Array Value} {v : Value} (hop : o.op = .extract x i) (hx : ρ x = .tuple cs) (hv : cs[i]? = some v) : (execOp ρ o).run P W = .ok (.value v) W := by
  unfold execOp
  simp only [hop, hx, Instr.extract, hv]
  rfl

/-- What is known of the operations of region 3: the answer of 'Judge', and its parts. -/
def JudgePh (ob : Nat) (err : Int) (c : Nat) (v : Value) : Prop :=
  (c = 1 → v = .pointer (some ⟨ob, 0, none⟩)) ∧ ((c = 8 ∨ c = 9) → ∃ vp u, v = .tuple #[vp, .int .u8 u, .int .i64 err]) ∧ (c = 12 → v = .int .i64 err)
end Go.Proofs.YtihkmkocgmkcjaaGreatDoor

/-
  The walk of 'right': whether an outing is right.
-/
namespace Go.Proofs.YtihkmkocgmkcjaaGreatDoor
open Go.RowKit Kr
set_option linter.unusedSimpArgs false
set_option linter.unusedVariables false

set_option maxRecDepth 4000 in
set_option maxHeartbeats 8000000 in
noncomputable def office_right_any_c1 : { G : Prop // G → ∀ (ob : Nat) (m : Kr.Books) (v : BookV) (ts : List (Kr.Scale × Value)) (xs : List OutV) (x : OutV) (w : World) (_ : BayAt w v.bay ts) (_ : ts.map Prod.fst = m.bay) (_ : IsRow (fun x : Int => [.int .i64 x]) 1 w v.cash m.cash) (_ : w.cell? ⟨ob, 0, none⟩ = some v.bay) (_ : w.cell? ⟨ob, 1, none⟩ = some v.cash) (_ : OutGood w x) (_ : 0 ≤ x.o.state) (_ : x.o.gear.loads.length ≤ 1000) (_ : CondsAt w)
    (_ : bayOk (ts.map Prod.fst) = true) (_ : m.cash.length ≤ 1000),
    Calls Tryz.prog 120 #[.pointer (some ⟨ob, 0, none⟩), .agg #[.int .i64 x.o.id, .int .i64 x.o.pilot, .int .i64 x.o.seats, .int .i64 x.o.price, .int .i64 x.o.part, .int .i64 x.o.norm.total.lo, .int .i64 x.o.norm.total.hi, .int .i64 x.o.norm.added, .int .i64 x.o.norm.warm, .int .i64 x.o.norm.hard.lo, .int .i64 x.o.norm.hard.hi, .bool x.o.norm.stamp, x.gs, .bool x.o.weighed, x.lv, .int .i64 x.o.gear.added, .int .i64 x.o.gear.base, .int .i64 x.o.gear.jitter, x.rv, x.sv, .int .i64 x.o.gear.spread, .bool x.o.gear.stamp, .int .u8 x.o.state]] w fun e w' => e = .returned (.bool (outOk m.bay (m.cash.length : Int) x.o)) ∧ w.Exts w' } := by
  apply Subtype.mk
  case property =>
  intro hG
  have HG := Lib.hid hG
  clear hG
  intro ob m v ts xs x w hb htse hcash h0 h1 hxg hst hld hcd hbo hn0
  obtain ⟨vb, vc, vo, vr, vp⟩ := v
  obtain ⟨qb, cb, hqb⟩ := hb.row.len
  obtain ⟨qc, cc, hqc⟩ := hcash.len
  dsimp only at hqb hqc h0 h1 hb
  subst hqb hqc
  clear hcash
  obtain ⟨⟨id, pilot, seats, price, part, norm, guests, weighed, gear, state⟩, gs, lv, rv, sv⟩ := x
  have hgs := hxg.at_.gs
  have hg := hxg.gear
  have hgl := hxg.few
  dsimp only at hgs hg hgl hst hld ⊢
  have hl := hg.l
  have hr := hg.r
  have hs := hg.s
  dsimp only at hl hr hs
  obtain ⟨q1, c1, e1⟩ := hl.len
  obtain ⟨q2, c2, e2⟩ := hr.len
  obtain ⟨q3, c3, e3⟩ := hs.len
  subst e1 e2 e3
  have hgr := hgs
  obtain ⟨q, b, off, cap, e4, hm, hq, hc⟩ := hgs.ex
  subst e4
  clear hgs hxg hl hr hs
  have hc1 : ∀ W : World, w.Exts W → W.cell? ⟨ob, 1, none⟩ = some (.slice qc m.cash.length cc) := fun W hE => hE.cell h1
  have hlay := Lays.of_cell h0
  obtain ⟨b1, hb1⟩ : ∃ z, inAll 0 9999 [id] = z := ⟨_, rfl⟩
  obtain ⟨b2, hb2⟩ : ∃ z, inAll 2 ((m.cash.length : Int) - 1) [pilot] = z := ⟨_, rfl⟩
  obtain ⟨b3, hb3⟩ : ∃ z, inAll 1 3 [seats] = z := ⟨_, rfl⟩
  obtain ⟨b4, hb4⟩ : ∃ z, inAll 0 100000 [price] = z := ⟨_, rfl⟩
  obtain ⟨b5, hb5⟩ : ∃ z, inAll 0 100 [part] = z := ⟨_, rfl⟩
  obtain ⟨b6, hb6⟩ : ∃ z, normB norm = z := ⟨_, rfl⟩
  obtain ⟨b7, hb7⟩ : ∃ z, decide (state ≤ 2) = z := ⟨_, rfl⟩
  obtain ⟨b8, hb8⟩ : ∃ z, decide ((guests.length : Int) ≤ seats) = z := ⟨_, rfl⟩
  obtain ⟨i1, hi1⟩ : ∃ z, inAll 2 ((m.cash.length : Int) - 1) guests = z := ⟨_, rfl⟩
  obtain ⟨i2, hi2⟩ : ∃ z, (guests.any fun y => y == pilot) = z := ⟨_, rfl⟩
  have hfin : outOk m.bay (m.cash.length : Int) ⟨id, pilot, seats, price, part, norm, guests, weighed, gear, state⟩ = ((b1 && (b2 && (b3 && (b4 && b5)))) && (b6 && (b7 && (b8 && ((i1 && (!i2 && allN (upAt guests) (guests.length - 1))) && outRest m.bay ⟨id, pilot, seats, price, part, norm, guests, weighed, gear, state⟩))))) := by
    unfold outOk outHead
    dsimp only
    rw [guestsOk_eq, hi1, hi2, ← inAll_one 0 9999, ← inAll_one 2, ← inAll_one 1, ← inAll_one 0 100000, ← inAll_one 0 100, hb1, hb2, hb3, hb4, hb5, hb6, hb7, hb8]
  have hgo : (∀ j, j < guests.length - 1 → upAt guests j = true) → allN (upAt guests) (guests.length - 1) = true := fun hh => allN_iff.2 hh
  have hgx : ∀ j, j < guests.length - 1 → upAt guests j = false → allN (upAt guests) (guests.length - 1) = false := fun j hj hh => allN_false hj hh
  have hrest : outRest m.bay ⟨id, pilot, seats, price, part, norm, guests, weighed, gear, state⟩ = (bif weighed then (decide (0 < guests.length) && (!(state == 2) && gearOk m.bay gear)) else (decide (gear = noGear) && (state == 0 || (state == 2 && decide (guests.length = 0))))) := rfl
  generalize outRest m.bay ⟨id, pilot, seats, price, part, norm, guests, weighed, gear, state⟩ = rest at hfin hrest
  generalize allN (upAt guests) (guests.length - 1) = ups at hfin hgo hgx
  rw [hfin]
  clear hfin
  rw [← htse] at hrest
  have hju : (judgeR (ts.map Prod.fst) noGear norm).2 = if b6 then 0 else 42 := by rw [Kr.judge_none hbo, hb6]
  have hck : check (ts.map Prod.fst) gear = if gearOk (ts.map Prod.fst) gear then 0 else 41 := by unfold check; rw [if_pos hbo]
  clear htse hb6 hbo
  have hn : m.cash.length ≤ 1000000 := by omega
  generalize m.cash.length = n at *
  have hjc : ∀ W : World, w.Exts W → Calls Tryz.prog 38 #[.agg #[.slice qb ts.length cb], .agg #[.slice none 0 0, .int .i64 0, .int .i64 0, .int .i64 0, .slice none 0 0, .slice none 0 0, .int .i64 0, .bool false], .agg #[.int .i64 norm.total.lo, .int .i64 norm.total.hi, .int .i64 norm.added, .int .i64 norm.warm, .int .i64 norm.hard.lo, .int .i64 norm.hard.hi, .bool norm.stamp]] W fun e w' => ∃ vp u, e = .returned (.tuple #[vp, .int .u8 u, .int .i64 (if b6 then 0 else 42)]) ∧ W.Exts w' := fun W hE => by
    refine (scale_Judge_any ts _ noGear _ _ _ norm W (hb.mono hE) ⟨IsRow.nil W, IsRow.nil W, IsRow.nil W, ⟨by decide, by decide⟩, fun l hl => by cases hl⟩ (hcd.mono hE)).mono ?_
    rw [hju]
    rintro e w' ⟨vp, rfl, -, hE2⟩
    exact ⟨vp, _, rfl, hE2⟩
  have HJC := Lib.hid hjc
  clear hjc
  have HJU := Lib.hid hju
  clear hju
  have HCK := Lib.hid hck
  clear hck
  have HBAY := Lib.hid hb
  clear hb
  have HGE := Lib.hid hg
  clear hg
  have HGR := Lib.hid hgr
  clear hgr
  have HGO := Lib.hid hgo
  clear hgo
  have HGX := Lib.hid hgx
  clear hgx
  have HREST := Lib.hid hrest
  clear hrest
  have HC1 := Lib.hid hc1
  clear hc1
  have B1 := Lib.hid hb1
  clear hb1
  have B2 := Lib.hid hb2
  clear hb2
  have B3 := Lib.hid hb3
  clear hb3
  have B4 := Lib.hid hb4
  clear hb4
  have B5 := Lib.hid hb5
  clear hb5
  have I1 := Lib.hid hi1
  clear hi1
  have I2 := Lib.hid hi2
  clear hi2
  have HQ := Lib.hid hq
  clear hq
  have HC := Lib.hid hc
  clear hc
  cases b1
  case false =>
    go_enter Tryz.func120, Tryz.ntmps120
    go_wp2_with (first
      | (go_at_call 74; ((with_reducible refine (guest_in_any 0 9999 _ [id] _ (row_int1 _ _ _ (by simp))).mono ?_); rintro e w' ⟨rfl, X1, rfl⟩; rw [B1.out]))
      | (go_at_call 119; ((with_reducible refine (office_person_any ob qc n cc _ [pilot] _ (HC1.out _ exq) hn (row_int1 _ _ _ (by simp))).mono ?_); rintro e w' ⟨rfl, X2, rfl⟩; rw [B2.out]))
      | (go_at_call 74; ((with_reducible refine (guest_in_any 1 3 _ [seats] _ (row_int1 _ _ _ (by simp))).mono ?_); rintro e w' ⟨rfl, X3, rfl⟩; rw [B3.out]))
      | (go_at_call 74; ((with_reducible refine (guest_in_any 0 100000 _ [price] _ (row_int1 _ _ _ (by simp))).mono ?_); rintro e w' ⟨rfl, X4, rfl⟩; rw [B4.out]))
      | (go_at_call 74; ((with_reducible refine (guest_in_any 0 100 _ [part] _ (row_int1 _ _ _ (by simp))).mono ?_); rintro e w' ⟨rfl, X5, rfl⟩; rw [B5.out])))
    go_ret
    exact ⟨by cases b6 <;> rfl, exq⟩
  cases b2
  case false =>
    go_enter Tryz.func120, Tryz.ntmps120
    go_wp2_with (first
      | (go_at_call 74; ((with_reducible refine (guest_in_any 0 9999 _ [id] _ (row_int1 _ _ _ (by simp))).mono ?_); rintro e w' ⟨rfl, X1, rfl⟩; rw [B1.out]))
      | (go_at_call 119; ((with_reducible refine (office_person_any ob qc n cc _ [pilot] _ (HC1.out _ exq) hn (row_int1 _ _ _ (by simp))).mono ?_); rintro e w' ⟨rfl, X2, rfl⟩; rw [B2.out]))
      | (go_at_call 74; ((with_reducible refine (guest_in_any 1 3 _ [seats] _ (row_int1 _ _ _ (by simp))).mono ?_); rintro e w' ⟨rfl, X3, rfl⟩; rw [B3.out]))
      | (go_at_call 74; ((with_reducible refine (guest_in_any 0 100000 _ [price] _ (row_int1 _ _ _ (by simp))).mono ?_); rintro e w' ⟨rfl, X4, rfl⟩; rw [B4.out]))
      | (go_at_call 74; ((with_reducible refine (guest_in_any 0 100 _ [part] _ (row_int1 _ _ _ (by simp))).mono ?_); rintro e w' ⟨rfl, X5, rfl⟩; rw [B5.out])))
    go_ret
    exact ⟨by cases b6 <;> rfl, exq⟩
  cases b3
  case false =>
    go_enter Tryz.func120, Tryz.ntmps120
    go_wp2_with (first
      | (go_at_call 74; ((with_reducible refine (guest_in_any 0 9999 _ [id] _ (row_int1 _ _ _ (by simp))).mono ?_); rintro e w' ⟨rfl, X1, rfl⟩; rw [B1.out]))
      | (go_at_call 119; ((with_reducible refine (office_person_any ob qc n cc _ [pilot] _ (HC1.out _ exq) hn (row_int1 _ _ _ (by simp))).mono ?_); rintro e w' ⟨rfl, X2, rfl⟩; rw [B2.out]))
      | (go_at_call 74; ((with_reducible refine (guest_in_any 1 3 _ [seats] _ (row_int1 _ _ _ (by simp))).mono ?_); rintro e w' ⟨rfl, X3, rfl⟩; rw [B3.out]))
      | (go_at_call 74; ((with_reducible refine (guest_in_any 0 100000 _ [price] _ (row_int1 _ _ _ (by simp))).mono ?_); rintro e w' ⟨rfl, X4, rfl⟩; rw [B4.out]))
      | (go_at_call 74; ((with_reducible refine (guest_in_any 0 100 _ [part] _ (row_int1 _ _ _ (by simp))).mono ?_); rintro e w' ⟨rfl, X5, rfl⟩; rw [B5.out])))
    go_ret
    exact ⟨by cases b6 <;> rfl, exq⟩
  cases b4
  case false =>
    go_enter Tryz.func120, Tryz.ntmps120
    go_wp2_with (first
      | (go_at_call 74; ((with_reducible refine (guest_in_any 0 9999 _ [id] _ (row_int1 _ _ _ (by simp))).mono ?_); rintro e w' ⟨rfl, X1, rfl⟩; rw [B1.out]))
      | (go_at_call 119; ((with_reducible refine (office_person_any ob qc n cc _ [pilot] _ (HC1.out _ exq) hn (row_int1 _ _ _ (by simp))).mono ?_); rintro e w' ⟨rfl, X2, rfl⟩; rw [B2.out]))
      | (go_at_call 74; ((with_reducible refine (guest_in_any 1 3 _ [seats] _ (row_int1 _ _ _ (by simp))).mono ?_); rintro e w' ⟨rfl, X3, rfl⟩; rw [B3.out]))
      | (go_at_call 74; ((with_reducible refine (guest_in_any 0 100000 _ [price] _ (row_int1 _ _ _ (by simp))).mono ?_); rintro e w' ⟨rfl, X4, rfl⟩; rw [B4.out]))
      | (go_at_call 74; ((with_reducible refine (guest_in_any 0 100 _ [part] _ (row_int1 _ _ _ (by simp))).mono ?_); rintro e w' ⟨rfl, X5, rfl⟩; rw [B5.out])))
    go_ret
    exact ⟨by cases b6 <;> rfl, exq⟩
  cases b5
  case false =>
    go_enter Tryz.func120, Tryz.ntmps120
    go_wp2_with (first
      | (go_at_call 74; ((with_reducible refine (guest_in_any 0 9999 _ [id] _ (row_int1 _ _ _ (by simp))).mono ?_); rintro e w' ⟨rfl, X1, rfl⟩; rw [B1.out]))
      | (go_at_call 119; ((with_reducible refine (office_person_any ob qc n cc _ [pilot] _ (HC1.out _ exq) hn (row_int1 _ _ _ (by simp))).mono ?_); rintro e w' ⟨rfl, X2, rfl⟩; rw [B2.out]))
      | (go_at_call 74; ((with_reducible refine (guest_in_any 1 3 _ [seats] _ (row_int1 _ _ _ (by simp))).mono ?_); rintro e w' ⟨rfl, X3, rfl⟩; rw [B3.out]))
      | (go_at_call 74; ((with_reducible refine (guest_in_any 0 100000 _ [price] _ (row_int1 _ _ _ (by simp))).mono ?_); rintro e w' ⟨rfl, X4, rfl⟩; rw [B4.out]))
      | (go_at_call 74; ((with_reducible refine (guest_in_any 0 100 _ [part] _ (row_int1 _ _ _ (by simp))).mono ?_); rintro e w' ⟨rfl, X5, rfl⟩; rw [B5.out])))
    go_ret
    exact ⟨by cases b6 <;> rfl, exq⟩
  cases b7
  case false =>
    have h7 : 2 < state := by simpa using hb7
    clear hb7
    go_enter Tryz.func120, Tryz.ntmps120
    go_wp2_with (first
      | (go_at_call 74; ((with_reducible refine (guest_in_any 0 9999 _ [id] _ (row_int1 _ _ _ (by simp))).mono ?_); rintro e w' ⟨rfl, X1, rfl⟩; rw [B1.out]))
      | (go_at_call 119; ((with_reducible refine (office_person_any ob qc n cc _ [pilot] _ (HC1.out _ exq) hn (row_int1 _ _ _ (by simp))).mono ?_); rintro e w' ⟨rfl, X2, rfl⟩; rw [B2.out]))
      | (go_at_call 74; ((with_reducible refine (guest_in_any 1 3 _ [seats] _ (row_int1 _ _ _ (by simp))).mono ?_); rintro e w' ⟨rfl, X3, rfl⟩; rw [B3.out]))
      | (go_at_call 74; ((with_reducible refine (guest_in_any 0 100000 _ [price] _ (row_int1 _ _ _ (by simp))).mono ?_); rintro e w' ⟨rfl, X4, rfl⟩; rw [B4.out]))
      | (go_at_call 74; ((with_reducible refine (guest_in_any 0 100 _ [part] _ (row_int1 _ _ _ (by simp))).mono ?_); rintro e w' ⟨rfl, X5, rfl⟩; rw [B5.out])))
    go_ret
    exact ⟨by cases b6 <;> rfl, exq⟩
  have h7 : state ≤ 2 := by simpa using hb7
  clear hb7
  go_enter Tryz.func120, Tryz.ntmps120
  go_wp2_with (first
    | (go_at_call 74; ((with_reducible refine (guest_in_any 0 9999 _ [id] _ (row_int1 _ _ _ (by simp))).mono ?_); rintro e w' ⟨rfl, X1, rfl⟩; rw [B1.out]))
    | (go_at_call 119; ((with_reducible refine (office_person_any ob qc n cc _ [pilot] _ (HC1.out _ exq) hn (row_int1 _ _ _ (by simp))).mono ?_); rintro e w' ⟨rfl, X2, rfl⟩; rw [B2.out]))
    | (go_at_call 74; ((with_reducible refine (guest_in_any 1 3 _ [seats] _ (row_int1 _ _ _ (by simp))).mono ?_); rintro e w' ⟨rfl, X3, rfl⟩; rw [B3.out]))
    | (go_at_call 74; ((with_reducible refine (guest_in_any 0 100000 _ [price] _ (row_int1 _ _ _ (by simp))).mono ?_); rintro e w' ⟨rfl, X4, rfl⟩; rw [B4.out]))
    | (go_at_call 74; ((with_reducible refine (guest_in_any 0 100 _ [part] _ (row_int1 _ _ _ (by simp))).mono ?_); rintro e w' ⟨rfl, X5, rfl⟩; rw [B5.out])))
  rename_i i9_1_1 i9_1_2 i9_1_3 i9_1_4 i9_1_5 i9_1_6
  revert ob m ts xs w hcd vo vr vp qb cb qc cc h0 id pilot seats price part norm guests weighed gear state hst hld hgl q1 c1 q2 c2 q3 c3 q b off cap hm hlay b6 b8 hb8 i1 i2 rest ups n hn0 h1 hn HJC HJU HCK HBAY HGE HGR HGO HGX HREST HC1 I1 I2 HQ HC B1 B2 B3 B4 B5 h7 i9_1_1 X1 X2 X3 X4 X5 i9_1_2 i9_1_3 i9_1_4 i9_1_5 i9_1_6
  exact HG.out
end Go.Proofs.YtihkmkocgmkcjaaGreatDoor

/-
  The walk of 'right': whether an outing is right.
-/
namespace Go.Proofs.YtihkmkocgmkcjaaGreatDoor
open Go.RowKit Kr
set_option linter.unusedSimpArgs false
set_option linter.unusedVariables false

set_option maxRecDepth 4000 in
set_option maxHeartbeats 8000000 in
theorem office_right_any_last : office_right_any_c1.val := by
  intro ob m ts xs w hcd vo vr vp qb cb qc cc h0 id pilot seats price part norm guests weighed gear state hst hld hgl q1 c1 q2 c2 q3 c3 q b off cap hm hlay b6 b8 hb8 i1 i2 rest ups n hn0 h1 hn HJC HJU HCK HBAY HGE HGR HGO HGX HREST HC1 I1 I2 HQ HC B1 B2 B3 B4 B5 h7 i9_1_1 X1 X2 X3 X4 X5 i9_1_2 i9_1_3 i9_1_4 i9_1_5 i9_1_6
  refine wp_region_callsK 15 (fun i => i == 1 || i == 8 || i == 9 || i == 10 || i == 11 || i == 12) (fun c v W => JudgePh ob (if b6 then 0 else 42) c v) (fun c => if c = 12 then some (.int .i64 (if b6 then 0 else 42)) else if c = 1 then some (.pointer (some ⟨ob, 0, none⟩)) else none) (by kernel_rfl) (fun ν => by kernel_rfl) (by kernel_rfl) (by kernel_rfl) (by kernel_rfl) (by kernel_rfl) (by kernel_rfl) ?mono ?known ?_
  rotate_left 2
  apply Exists.intro
  refine ⟨fun ν hkn => ?want, fun ν hkn L hL => ?walk, fun c oc hc hU ν hkn W hE hΦ => ?calls, fun ν hkn W hE hΦ => ?lastK⟩
  case walk =>
    repeat (first
      | (refine modTo_free rfl ?_; go_big_quiet_step (fail))
      | (refine modTo_call rfl (hkn _ _ rfl) ?_; go_big_quiet_step (fail))
      | (refine modTo_call rfl rfl ?_; go_big_quiet_step (fail)))
    refine modTo_end ?_
    exact hL
  case want =>
    intro i oi hi hU
    simp at hU
    rcases hU with ((((rfl | rfl) | rfl) | rfl) | rfl) | rfl
    all_goals
      simp only [List.getElem?_cons_succ, List.getElem?_cons_zero, Option.some.injEq] at hi
      subst hi
      rfl
  case mono => exact fun c v W W' h hE => h
  case known =>
    intro c v W u h hk
    by_cases hc : c = 12
    · subst hc
      rw [h.2.2 rfl]
      exact Option.some.inj hk
    · rw [if_neg hc] at hk
      by_cases hc1 : c = 1
      · subst hc1
        rw [h.1 rfl]
        exact Option.some.inj hk
      · rw [if_neg hc1] at hk; cases hk
  case calls =>
    have hwW : w.Exts W := World.Exts.trans exq hE
    simp at hU
    rcases hU with ((((rfl | rfl) | rfl) | rfl) | rfl) | rfl
    · simp only [List.getElem?_cons_succ, List.getElem?_cons_zero, Option.some.injEq] at hc
      subst hc
      exact .inr ⟨.pointer (some ⟨ob, 0, none⟩), W, by kernel_rfl, World.Exts.refl _, fun _ => rfl, (fun h => by rcases h with h | h <;> cases h), fun h => by cases h⟩
    · simp only [List.getElem?_cons_succ, List.getElem?_cons_zero, Option.some.injEq] at hc
      subst hc
      refine Oper.gives_fn rfl rfl rfl (enters_of Tryz.func38 (by kernel_rfl) rfl) ?_ rfl
      refine (HJC.out W hwW).mono ?_
      rintro e W' ⟨vp, u, rfl, h2⟩
      exact ⟨_, rfl, h2, (fun h => by cases h), fun _ => ⟨vp, u, rfl⟩, fun h => by cases h⟩
    · simp only [List.getElem?_cons_succ, List.getElem?_cons_zero, Option.some.injEq] at hc
      subst hc
      have h8 := (hΦ 8 rfl ⟨⟨8, .data⟩, by simp, rfl, rfl⟩).2.1 (.inl rfl)
      exact .inr ⟨ν 8, W, by kernel_rfl, World.Exts.refl _, (fun h => by cases h), fun _ => h8, fun h => by cases h⟩
    · simp only [List.getElem?_cons_succ, List.getElem?_cons_zero, Option.some.injEq] at hc
      subst hc
      obtain ⟨vp, u, h9⟩ := (hΦ 9 rfl ⟨⟨9, .data⟩, by simp, rfl, rfl⟩).2.1 (.inr rfl)
      refine .inr ⟨vp, W, ?run10, World.Exts.refl _, (fun h => by cases h), (fun h => by rcases h with h | h <;> cases h), fun h => by cases h⟩
      case run10 => exact run_extract_of rfl h9 rfl
    · simp only [List.getElem?_cons_succ, List.getElem?_cons_zero, Option.some.injEq] at hc
      subst hc
      obtain ⟨vp, u, h9⟩ := (hΦ 9 rfl ⟨⟨9, .data⟩, by simp, rfl, rfl⟩).2.1 (.inr rfl)
      refine .inr ⟨.int .u8 u, W, ?run11, World.Exts.refl _, (fun h => by cases h), (fun h => by rcases h with h | h <;> cases h), fun h => by cases h⟩
      case run11 => exact run_extract_of rfl h9 rfl
    · simp only [List.getElem?_cons_succ, List.getElem?_cons_zero, Option.some.injEq] at hc
      subst hc
      obtain ⟨vp, u, h9⟩ := (hΦ 9 rfl ⟨⟨9, .data⟩, by simp, rfl, rfl⟩).2.1 (.inr rfl)
      refine .inr ⟨.int .i64 (if b6 then 0 else 42), W, ?run12, World.Exts.refl _, (fun h => by cases h), (fun h => by rcases h with h | h <;> cases h), fun _ => rfl⟩
      case run12 => exact run_extract_of rfl h9 rfl
  case lastK =>
    have e12 := (hΦ 12 (by decide) rfl).2.2 rfl
    simp only [List.drop_succ_cons, List.drop_zero]
    clear hkn hΦ
    generalize ν 1 = n1
    generalize ν 8 = n8
    generalize ν 9 = n9
    generalize ν 10 = n10
    generalize ν 11 = n11
    generalize ν 12 = n12 at e12 ⊢
    subst e12
    obtain ⟨XJ, rfl⟩ := hE
    cases b6
    case false =>
      go_wp2_with fail
      go_ret
      exact ⟨rfl, exq⟩
    cases b8
    case false =>
      have h8 : seats < (guests.length : Int) := by simpa using hb8
      clear hb8
      go_wp2_with fail
      go_ret
      exact ⟨rfl, exq⟩
    have h8 : (guests.length : Int) ≤ seats := by simpa using hb8
    clear hb8
    cases i1
    case false =>
      go_wp2_with (go_at_call 119; ((with_reducible refine (office_person_any ob qc n cc _ guests _ (HC1.out _ exq) hn (HGR.out.mono exq)).mono ?_); rintro e w' ⟨rfl, X6, rfl⟩; rw [I1.out]))
      go_ret
      exact ⟨rfl, exq⟩
    cases i2
    case true =>
      go_wp2_with (first
        | (go_at_call 119; ((with_reducible refine (office_person_any ob qc n cc _ guests _ (HC1.out _ exq) hn (HGR.out.mono exq)).mono ?_); rintro e w' ⟨rfl, X6, rfl⟩; rw [I1.out]))
        | (go_at_call 33; refine (Contains_int_any guests pilot _ _ (HGR.out.mono exq)).mono ?_; rintro e w' ⟨rfl, X7, rfl⟩; rw [I2.out]))
      go_ret
      exact ⟨rfl, exq⟩
    go_wp2_with (first
      | (go_at_call 119; ((with_reducible refine (office_person_any ob qc n cc _ guests _ (HC1.out _ exq) hn (HGR.out.mono exq)).mono ?_); rintro e w' ⟨rfl, X6, rfl⟩; rw [I1.out]))
      | (go_at_call 33; refine (Contains_int_any guests pilot _ _ (HGR.out.mono exq)).mono ?_; rintro e w' ⟨rfl, X7, rfl⟩; rw [I2.out]))
    go_loopw [8, 87] (fun _ i wr => ∃ k : Nat, k ≤ guests.length - 1 ∧ i = .int .i64 k ∧ Hid (∀ j, j < k → upAt guests j = true) ∧ (World.ext _ X7).Exts wr) (fun _ i _ => guests.length - (intOf i).toNat)
    case atStart => exact ⟨0, Nat.zero_le _, rfl, Lib.hid (fun j hj => by omega), exq⟩
    case round =>
      obtain ⟨k, hk, rfl, HA, hE⟩ := hrel
      obtain ⟨X8, rfl⟩ := hE
      rcases Nat.lt_or_ge k (guests.length - 1) with hlt | hge
      · obtain ⟨rfl, hlay8⟩ := HQ.out (by omega)
        obtain ⟨y, hy⟩ := some_of_lt (show k < guests.length by omega)
        obtain ⟨z, hz⟩ := some_of_lt (show k + 1 < guests.length by omega)
        have c0 := HC.out k y hy 0 _ rfl
        have d0 := HC.out (k + 1) z hz 0 _ rfl
        simp only [Nat.mul_one, Nat.add_zero] at c0 d0
        have hup : upAt guests k = decide (y < z) := by unfold upAt; rw [getD_of hy, getD_of hz]
        have hl1 : (k : Int) < (guests.length : Int) - 1 := by omega
        have hl2 : (k : Int) < (guests.length : Int) := by omega
        have hl3 : (k : Int) + 1 < (guests.length : Int) := by omega
        rcases Int.lt_or_le y z with hyz | hyz
        · have hgood : ∀ j, j < k + 1 → upAt guests j = true := below_snoc HA.out (by rw [hup]; simpa using hyz)
          have d5 : decide (z ≤ y) = false := by simp; omega
          have HGOOD := Lib.hid hgood
          clear hgood
          clear hup hy hz
          go_wp2_with fail
          refine wp_region_ext (by kernel_rfl) (by kernel_rfl) ?_
          repeat (go_big_quiet_step (fail))
          refine wpQuiet_nil ?_
          rintro _ ⟨X, rfl⟩
          go_wp2_with fail
          go_roundw
          case rel => exact ⟨k + 1, by omega, by go_num, HGOOD, exq⟩
          case measure => simp [intOf]; omega
        · have hbad := HGX.out k hlt (by rw [hup]; simp; omega)
          have HBAD := Lib.hid hbad
          clear hbad
          clear hup hy hz
          go_wp2_with fail
          refine wp_region_ext (by kernel_rfl) (by kernel_rfl) ?_
          repeat (go_big_quiet_step (fail))
          refine wpQuiet_nil ?_
          rintro _ ⟨X, rfl⟩
          go_wp2_with fail
          go_ret
          exact ⟨by rw [HBAD.out]; rfl, exq⟩
      · have hups := HGO.out (fun j hj => HA.out j (by omega))
        have hnl : ¬ (k : Int) < (guests.length : Int) - 1 := by omega
        have hrest := HREST.out
        have hck := HCK.out
        have HUP := Lib.hid hups
        clear hups
        clear HA
        cases weighed
        · obtain ⟨a1, ha1⟩ : ∃ z, decide (gear = noGear) = z := ⟨_, rfl⟩
          simp only [cond_false, ha1] at hrest
          have HA1 := Lib.hid ha1
          clear ha1
          cases a1
          case false =>
            have HR9 := Lib.hid hrest
            clear hrest
            go_wp2_with (go_at_call 152; refine (guest_clean_any gear _ _ _ _ (HGE.out.l.mono exq) (HGE.out.r.mono exq) (HGE.out.s.mono exq) hld HGE.out.len.1 HGE.out.len.2).mono ?_; rintro e w' ⟨rfl, X9, rfl⟩; rw [HA1.out])
            go_ret
            exact ⟨by rw [HUP.out, HR9.out]; rfl, exq⟩
          rcases (show state = 0 ∨ state = 1 ∨ state = 2 by omega) with hs | hs | hs
          · subst hs
            have HR9 := Lib.hid hrest
            clear hrest
            go_wp2_with (go_at_call 152; refine (guest_clean_any gear _ _ _ _ (HGE.out.l.mono exq) (HGE.out.r.mono exq) (HGE.out.s.mono exq) hld HGE.out.len.1 HGE.out.len.2).mono ?_; rintro e w' ⟨rfl, X9, rfl⟩; rw [HA1.out])
            go_ret
            exact ⟨by rw [HUP.out, HR9.out]; rfl, exq⟩
          · subst hs
            have HR9 := Lib.hid hrest
            clear hrest
            go_wp2_with (go_at_call 152; refine (guest_clean_any gear _ _ _ _ (HGE.out.l.mono exq) (HGE.out.r.mono exq) (HGE.out.s.mono exq) hld HGE.out.len.1 HGE.out.len.2).mono ?_; rintro e w' ⟨rfl, X9, rfl⟩; rw [HA1.out])
            go_ret
            exact ⟨by rw [HUP.out, HR9.out]; rfl, exq⟩
          · subst hs
            by_cases hg0 : guests.length = 0
            · rw [decide_eq_true hg0] at hrest
              have hg9 : (guests.length : Int) = 0 := by omega
              have HR9 := Lib.hid hrest
              clear hrest
              go_wp2_with (go_at_call 152; refine (guest_clean_any gear _ _ _ _ (HGE.out.l.mono exq) (HGE.out.r.mono exq) (HGE.out.s.mono exq) hld HGE.out.len.1 HGE.out.len.2).mono ?_; rintro e w' ⟨rfl, X9, rfl⟩; rw [HA1.out])
              go_ret
              exact ⟨by rw [HUP.out, HR9.out]; first | rfl | (simp; done), exq⟩
            · rw [decide_eq_false hg0] at hrest
              have hg9 : ¬ (guests.length : Int) = 0 := by omega
              have HR9 := Lib.hid hrest
              clear hrest
              go_wp2_with (go_at_call 152; refine (guest_clean_any gear _ _ _ _ (HGE.out.l.mono exq) (HGE.out.r.mono exq) (HGE.out.s.mono exq) hld HGE.out.len.1 HGE.out.len.2).mono ?_; rintro e w' ⟨rfl, X9, rfl⟩; rw [HA1.out])
              go_ret
              exact ⟨by rw [HUP.out, HR9.out]; first | rfl | (simp; done) | (simp; intro hh; exact hg0 (by rw [hh]; rfl)), exq⟩
        · simp only [cond_true] at hrest
          by_cases hs2 : state = 2
          · subst hs2
            have hrest2 : rest = false := by rw [hrest]; simp
            have HR9 := Lib.hid hrest2
            clear hrest2
            clear hrest
            go_wp2_with fail
            refine wp_region_ext (by kernel_rfl) (by kernel_rfl) ?_
            repeat (go_big_quiet_step (fail))
            refine wpQuiet_nil ?_
            rintro _ ⟨X, rfl⟩
            go_wp2_with fail
            go_ret
            exact ⟨by rw [HUP.out, HR9.out]; rfl, exq⟩
          · have s3 : (state == 2) = false := by simpa using hs2
            have s4 : decide (state = 2) = false := by simpa using hs2
            have s5 : (state != 2) = true := by simp [bne, s3]
            have s6 : (!decide (state = 2)) = true := by rw [s4]; rfl
            have s7 : decide (¬ state = 2) = true := by simpa using hs2
            clear hs2
            rw [s3] at hrest
            rcases Nat.eq_zero_or_pos guests.length with hg0 | hg0
            · rw [decide_eq_false (by omega)] at hrest
              have hg9 : (guests.length : Int) = 0 := by omega
              have HR9 := Lib.hid hrest
              clear hrest
              go_wp2_with fail
              refine wp_region_ext (by kernel_rfl) (by kernel_rfl) ?_
              repeat (go_big_quiet_step (fail))
              refine wpQuiet_nil ?_
              rintro _ ⟨X, rfl⟩
              go_wp2_with fail
              go_ret
              exact ⟨by rw [HUP.out, HR9.out]; rfl, exq⟩
            · rw [decide_eq_true hg0] at hrest
              have hg9 : (0 : Int) < (guests.length : Int) := by omega
              obtain ⟨a2, ha2⟩ : ∃ z, gearOk (ts.map Prod.fst) gear = z := ⟨_, rfl⟩
              rw [ha2] at hrest hck
              have HR9 := Lib.hid hrest
              clear hrest
              cases a2
              all_goals
                simp only [Bool.false_eq_true, if_false, if_true] at hck
                have HCK9 := Lib.hid hck
                clear hck
                go_wp2_with fail
                refine wp_region_ext (by kernel_rfl) (by kernel_rfl) ?_
                repeat (go_big_quiet_step ((go_at_call 116; exact Calls.in_ext_eq (scale_Check_any ts _ (gear, .slice q1 gear.loads.length c1, .slice q2 gear.runners.length c2, .slice q3 gear.strokes.length c3) _ (HBAY.out.mono exq) (HGE.out.mono exq)) (congrArg (Value.int .i64) HCK9.out))))
                refine wpQuiet_nil ?_
                rintro _ ⟨X, rfl⟩
                go_wp2_with fail
                go_ret
                exact ⟨by rw [HUP.out, HR9.out]; rfl, exq⟩
theorem office_right_any (ob : Nat) (m : Kr.Books) (v : BookV) (ts : List (Kr.Scale × Value)) (xs : List OutV) (x : OutV) (w : World) (hb : BayAt w v.bay ts) (htse : ts.map Prod.fst = m.bay) (hcash : IsRow (fun x : Int => [.int .i64 x]) 1 w v.cash m.cash) (h0 : w.cell? ⟨ob, 0, none⟩ = some v.bay) (h1 : w.cell? ⟨ob, 1, none⟩ = some v.cash) (hxg : OutGood w x) (hst : 0 ≤ x.o.state) (hld : x.o.gear.loads.length ≤ 1000) (hcd : CondsAt w)
    (hbo : bayOk (ts.map Prod.fst) = true) (hn0 : m.cash.length ≤ 1000) :
    Calls Tryz.prog 120 #[.pointer (some ⟨ob, 0, none⟩), .agg #[.int .i64 x.o.id, .int .i64 x.o.pilot, .int .i64 x.o.seats, .int .i64 x.o.price, .int .i64 x.o.part, .int .i64 x.o.norm.total.lo, .int .i64 x.o.norm.total.hi, .int .i64 x.o.norm.added, .int .i64 x.o.norm.warm, .int .i64 x.o.norm.hard.lo, .int .i64 x.o.norm.hard.hi, .bool x.o.norm.stamp, x.gs, .bool x.o.weighed, x.lv, .int .i64 x.o.gear.added, .int .i64 x.o.gear.base, .int .i64 x.o.gear.jitter, x.rv, x.sv, .int .i64 x.o.gear.spread, .bool x.o.gear.stamp, .int .u8 x.o.state]] w fun e w' => e = .returned (.bool (outOk m.bay (m.cash.length : Int) x.o)) ∧ w.Exts w' :=
  (office_right_any_c1.property office_right_any_last) ob m v ts xs x w hb htse hcash h0 h1 hxg hst hld hcd hbo hn0
end Go.Proofs.YtihkmkocgmkcjaaGreatDoor
