/-
  Books of guests, as they lie in memory.
-/
import Derived.Test.YtihkmkocgmkcjaaGreatDoorGb
namespace Go.Proofs.YtihkmkocgmkcjaaGreatDoor
open Go.RowKit Kr
set_option linter.unusedSimpArgs false

/-- An outing with its slices. -/
structure OutV where
  o : Kr.Outing
  gs : Value
  lv : Value
  rv : Value
  sv : Value
structure OutAt (w : World) (x : OutV) : Prop where
  gs : IsRow (fun x : Int => [.int .i64 x]) 1 w x.gs x.o.guests
  l : IsRow (fun t : Kr.Load => [.int .i64 t.scale, .int .i64 t.shown]) 2 w x.lv x.o.gear.loads
  r : IsRow (fun x : Int => [.int .i64 x]) 1 w x.rv x.o.gear.runners
  s : IsRow (fun x : Int => [.int .i64 x]) 1 w x.sv x.o.gear.strokes
theorem OutAt.mono {w w' : World} {x : OutV} (h : OutAt w x) (hE : w.Exts w') : OutAt w' x := ⟨h.gs.mono hE, h.l.mono hE, h.r.mono hE, h.s.mono hE⟩
/-- The slices of books. -/
structure BookV where
  bay : Value
  cash : Value
  outs : Value
  rfds : Value
  pleas : Value
/-- Books lie in memory: their scales and outings with all of their slices. -/
structure BooksAt (w : World) (m : Kr.Books) (v : BookV) (ts : List (Kr.Scale × Value)) (xs : List OutV) : Prop where
  bay : BayAt w v.bay ts
  tse : ts.map Prod.fst = m.bay
  cash : IsRow (fun x : Int => [.int .i64 x]) 1 w v.cash m.cash
  outs : IsRow (fun x : OutV => [.int .i64 x.o.id, .int .i64 x.o.pilot, .int .i64 x.o.seats, .int .i64 x.o.price, .int .i64 x.o.part, .int .i64 x.o.norm.total.lo, .int .i64 x.o.norm.total.hi, .int .i64 x.o.norm.added, .int .i64 x.o.norm.warm, .int .i64 x.o.norm.hard.lo, .int .i64 x.o.norm.hard.hi, .bool x.o.norm.stamp, x.gs, .bool x.o.weighed, x.lv, .int .i64 x.o.gear.added, .int .i64 x.o.gear.base, .int .i64 x.o.gear.jitter, x.rv, x.sv, .int .i64 x.o.gear.spread, .bool x.o.gear.stamp, .int .u8 x.o.state]) 23 w v.outs xs
  ose : xs.map OutV.o = m.outings
  out : ∀ x ∈ xs, OutAt w x
  rfds : IsRow (fun r : Kr.Rfd => [.int .i64 r.days, .int .i64 r.part]) 2 w v.rfds m.refunds
  pleas : IsRow (fun x : Int => [.int .i64 x]) 1 w v.pleas m.pleas
theorem BooksAt.mono {w w' : World} {m : Kr.Books} {v : BookV} {ts : List (Kr.Scale × Value)} {xs : List OutV} (h : BooksAt w m v ts xs) (hE : w.Exts w') : BooksAt w' m v ts xs :=
  ⟨h.bay.mono hE, h.tse, h.cash.mono hE, h.outs.mono hE, h.ose, fun x hx => (h.out x hx).mono hE, h.rfds.mono hE, h.pleas.mono hE⟩

def heldS (os : List Kr.Outing) : Int := ((os.filter fun o => o.state == 0).map fun o => o.price * (o.guests.length : Int)).sum
theorem heldS_snoc {os : List Kr.Outing} {k : Nat} {o : Kr.Outing} (h : os[k]? = some o) : heldS (os.take (k + 1)) = heldS (os.take k) + if o.state = 0 then o.price * (o.guests.length : Int) else 0 := by
  unfold heldS
  rw [take_snoc h, List.filter_append]
  by_cases hs : o.state = 0 <;> simp [hs]
theorem heldS_bd {os : List Kr.Outing} (hx : ∀ o ∈ os, (0 ≤ o.price ∧ o.price ≤ 100000) ∧ o.guests.length ≤ 8) : 0 ≤ heldS os ∧ heldS os ≤ 800000 * (os.length : Int) := by
  induction os with
  | nil => simp [heldS]
  | cons o os ih =>
    have h1 := ih fun y hy => hx y (List.mem_cons_of_mem _ hy)
    have h2 := hx o (List.mem_cons_self ..)
    have h3 : 0 ≤ o.price * (o.guests.length : Int) := Int.mul_nonneg h2.1.1 (by omega)
    have h4 : o.price * (o.guests.length : Int) ≤ 100000 * 8 := Int.mul_le_mul h2.1.2 (by omega) (by omega) (by omega)
    unfold heldS at h1 ⊢
    rw [List.filter_cons, List.length_cons]
    split
    · rw [List.map_cons, List.sum_cons]; omega
    · omega

set_option maxHeartbeats 2000000 in
theorem r10_held_any (m : Kr.Books) (v : BookV) (ts : List (Kr.Scale × Value)) (xs : List OutV) (w : World) (h : BooksAt w m v ts xs) (hf : 0 ≤ m.fee ∧ m.fee ≤ 100000) (hpl : m.pleas.length ≤ 8) (hol : m.outings.length ≤ 8)
    (hx : ∀ o ∈ m.outings, (0 ≤ o.price ∧ o.price ≤ 100000) ∧ o.guests.length ≤ 8) :
    Calls Tryz.prog 156 #[.agg #[v.bay, v.cash, v.outs, v.rfds, .int .i64 m.fee, v.pleas]] w fun e w' => e = .returned (.int .i64 (heldOf m.outings m.fee m.pleas)) ∧ w.Exts w' := by
  obtain ⟨vb, vc, vo, vr, vp⟩ := v
  obtain ⟨qb, cb, hqb⟩ := h.bay.row.len
  obtain ⟨qc, cc, hqc⟩ := h.cash.len
  obtain ⟨qr, cr, hqr⟩ := h.rfds.len
  obtain ⟨qp, cp, hqp⟩ := h.pleas.len
  obtain ⟨q, b, o, cap, hqo, hm, hq, hc⟩ := h.outs.ex
  dsimp only at hqb hqc hqr hqp hqo
  subst hqb hqc hqr hqp hqo
  have hos := h.ose
  have hgs := fun x hx => (h.out x hx).gs
  have hfin : heldOf m.outings m.fee m.pleas = m.fee * (m.pleas.length : Int) + heldS m.outings := rfl
  have hf1 : 0 ≤ m.fee * (m.pleas.length : Int) := Int.mul_nonneg hf.1 (by omega)
  have hf2 : m.fee * (m.pleas.length : Int) ≤ 100000 * 8 := Int.mul_le_mul hf.2 (by omega) (by omega) (by omega)
  have hxl : xs.length = m.outings.length := by rw [← hos, List.length_map]
  have hxl8 : xs.length ≤ 8 := by omega
  obtain ⟨fp, hfp⟩ : ∃ z, m.fee * (m.pleas.length : Int) = z := ⟨_, rfl⟩
  rw [hfp] at hf1 hf2 hfin
  have HFIN := Lib.hid hfin
  clear hfin
  have HQ := Lib.hid hq
  clear hq
  have HC := Lib.hid hc
  clear hc
  have HGS := Lib.hid hgs
  clear hgs
  have HOS := Lib.hid hos
  clear hos
  have HX := Lib.hid hx
  clear hx
  have HXL := Lib.hid hxl
  clear hxl
  clear h
  go_enter Tryz.func156, Tryz.ntmps156
  go_wp2_with fail
  clear hfp
  go_loopw [4, 3] (fun i s wr => ∃ k : Nat, k ≤ xs.length ∧ i = .int .i64 k ∧ s = .int .i64 (fp + heldS (m.outings.take k)) ∧ (World.alloc w (.cells #[.slice qb ts.length cb, .slice qc m.cash.length cc, .slice q xs.length cap, .slice qr m.refunds.length cr, .int .i64 m.fee, .slice qp m.pleas.length cp] 65)).Exts wr) (fun i _ _ => xs.length - (intOf i).toNat)
  case atStart => exact ⟨0, Nat.zero_le _, rfl, by simp [heldS], World.Exts.refl _⟩
  case round =>
    obtain ⟨k, hk, rfl, rfl, hE⟩ := hrel
    obtain ⟨X, rfl⟩ := hE
    rcases Nat.lt_or_ge k xs.length with hlt | hge
    · obtain ⟨rfl, hl⟩ := HQ.out (by omega)
      obtain ⟨x, hxk⟩ := some_of_lt hlt
      have hmem := List.mem_of_getElem? hxk
      have hok : m.outings[k]? = some x.o := by rw [← HOS.out, List.getElem?_map, hxk]; rfl
      have hxo := HX.out x.o (List.mem_of_getElem? hok)
      obtain ⟨qg, cg, hqg⟩ := (HGS.out x hmem).len
      have hcs := HC.out k x hxk
      have c3 := hcs 3 _ rfl
      have c12 := hcs 12 _ rfl
      have c22 := hcs 22 _ rfl
      rw [hqg] at c12
      have hsn := heldS_snoc hok
      have hb1 := heldS_bd (os := m.outings.take k) (fun o ho => HX.out o (List.mem_of_mem_take ho))
      have hkl : (m.outings.take k).length = k := by rw [List.length_take, ← HXL.out]; omega
      rw [hkl] at hb1
      have h3 : 0 ≤ x.o.price * (x.o.guests.length : Int) := Int.mul_nonneg hxo.1.1 (by omega)
      have h4 : x.o.price * (x.o.guests.length : Int) ≤ 100000 * 8 := Int.mul_le_mul hxo.1.2 (by omega) (by omega) (by omega)
      obtain ⟨pg, hpg⟩ : ∃ z, x.o.price * (x.o.guests.length : Int) = z := ⟨_, rfl⟩
      rw [hpg] at hsn h3 h4
      have w1 : (0 : Int) ≤ (k : Int) := by omega
      have w2 : (k : Int) < (xs.length : Int) := by omega
      by_cases hst : x.o.state = 0
      · rw [if_pos hst] at hsn
        rw [hst] at c22
        have HSN := Lib.hid hsn
        clear hsn
        clear hcs hok hmem hxk hqg hkl hst
        go_wp2_with fail
        refine wp_region_ext (by kernel_rfl) (by kernel_rfl) ?_
        repeat (go_big_quiet_step (fail))
        refine wpQuiet_nil ?_
        rintro _ ⟨X, rfl⟩
        go_wp2_with fail
        go_roundw
        case rel => exact ⟨k + 1, by omega, by go_num, by rw [HSN.out]; go_num, exq⟩
        case measure => simp [intOf]; omega
      · rw [if_neg hst] at hsn
        have d1 : (x.o.state == 0) = false := by simpa using hst
        have d2 : decide (x.o.state = 0) = false := by simpa using hst
        have HSN := Lib.hid hsn
        clear hsn
        clear hcs hok hmem hxk hqg hkl hpg
        go_wp2_with fail
        go_roundw
        case rel => exact ⟨k + 1, by omega, by go_num, by rw [HSN.out, Int.add_zero], exq⟩
        case measure => simp [intOf]; omega
    · have hkn : k = m.outings.length := by have := HXL.out; omega
      have e : m.outings.take k = m.outings := by rw [hkn, List.take_length]
      rw [e]
      go_wp2_with fail
      go_ret
      rw [HFIN.out]
      exact ⟨rfl, exq⟩
end Go.Proofs.YtihkmkocgmkcjaaGreatDoor
