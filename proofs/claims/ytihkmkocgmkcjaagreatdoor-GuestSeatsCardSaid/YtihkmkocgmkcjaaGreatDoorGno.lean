/-
  Several texts in one: see the heads of its parts.
-/
import Derived.Test.YtihkmkocgmkcjaaGreatDoorGm
import Derived.Test.YtihkmkocgmkcjaaGreatDoorGh
import Derived.Test.YtihkmkocgmkcjaaGreatDoorScD
import Derived.Test.YtihkmkocgmkcjaaGreatDoorTp
import Derived.Test.YtihkmkocgmkcjaaGreatDoorGk

/-
  What is owed, by the office: a map from accounts to cents.
-/
namespace Go
open Go.RowKit Go.Maps Kr
theorem grown_extsG {A W w' : World} (hg : W.grownBy w' none) (hE : A.Exts W) : A.Exts w' := .of (hE.below.grown hg hE.below.size (fun k hk => by cases hk))
/-- 'm[k]' of a map whose elements read as themselves, where the map has the key. -/
theorem look_own {P : Program} {k t e : TypeId} {w : World} {b n : Nat} {D : DataW Value} (h : w.ownsMap P k readSelf b n D) (K : Keyed P k) (ht : P.underlying t = some (.map k e)) {z : Value} (hz : (zeroValue e).run P w = .ok z w)
    {key : Value} {kl : Lit} (hkey : keyOf P k key = some kl) {v : Value} (hv : D.atKey kl (.held z) = .held v) : (Instr.lookup t (.map (some b)) key false).run P w = .ok v w := by
  obtain ⟨es, clock, hb, F, _, rfl⟩ := h
  rcases Maps.fit_look false K ht hz hb F hkey with ⟨hrun, _, hat⟩ | ⟨e0, y, _, _, hrun, hRv, hat, _⟩
  · rw [hat] at hv; cases hv; exact hrun
  · rw [hat] at hv
    simp [readSelf] at hRv
    rw [← hRv] at hv
    simp at hv
    rw [hrun, ← hv]; rfl
end Go
namespace Kr
/-- What is owed by the outings so far, and by the first guests of the next one. -/
def owedAt (os : List Outing) (fee : Int) (o : Outing) (t : Nat) (j : Int) : Int := owedBy os fee [] j + (if o.state = 0 then o.price * cnt j (o.guests.take t) else 0)
theorem owedAt_start (os : List Outing) (fee : Int) (o : Outing) (j : Int) : owedAt os fee o 0 j = owedBy os fee [] j := by
  unfold owedAt
  rw [List.take_zero, cnt_nil, Int.mul_zero, ite_self, Int.add_zero]
theorem cnt_take {l : List Int} {t : Nat} {a : Int} (h : l[t]? = some a) (j : Int) : cnt j (l.take (t + 1)) = cnt j (l.take t) + if a = j then 1 else 0 := by
  unfold cnt
  rw [Go.take_snoc h, List.count_append, List.count_cons, List.count_nil]
  by_cases hj : a = j <;> simp [hj]
theorem owedAt_step {os : List Outing} {fee : Int} {o : Outing} {t : Nat} {a : Int} (h : o.guests[t]? = some a) (hs : o.state = 0) (j : Int) : (if j = a then owedAt os fee o t a + o.price else owedAt os fee o t j) = owedAt os fee o (t + 1) j := by
  unfold owedAt
  rw [if_pos hs, if_pos hs, if_pos hs, cnt_take h]
  by_cases hj : j = a
  · subst hj; rw [if_pos rfl, if_pos rfl, Int.mul_add, Int.mul_one]; omega
  · rw [if_neg hj, if_neg (fun e => hj e.symm), Int.add_zero]
theorem owedAt_skip {os : List Outing} {fee : Int} {o : Outing} (t : Nat) (hs : ¬ o.state = 0) (j : Int) : owedAt os fee o t j = owedBy os fee [] j := by unfold owedAt; rw [if_neg hs, Int.add_zero]
theorem owedAt_done {os : List Outing} {fee : Int} {o : Outing} {k : Nat} (h : os[k]? = some o) (j : Int) : owedAt (os.take k) fee o o.guests.length j = owedBy (os.take (k + 1)) fee [] j := by
  unfold owedAt owedBy
  rw [List.take_length, Go.take_snoc h, List.filter_append, List.map_append, List.sum_append]
  by_cases hs : o.state = 0
  · rw [if_pos hs]; simp [hs]
    omega
  · rw [if_neg hs]; simp [hs]
theorem owed_plea {os : List Outing} {fee : Int} {pleas : List Int} {t : Nat} {a : Int} (h : pleas[t]? = some a) (j : Int) : (if j = a then owedBy os fee (pleas.take t) a + fee else owedBy os fee (pleas.take t) j) = owedBy os fee (pleas.take (t + 1)) j := by
  unfold owedBy
  rw [cnt_take h]
  by_cases hj : j = a
  · subst hj; rw [if_pos rfl, if_pos rfl, Int.mul_add, Int.mul_one]; omega
  · rw [if_neg hj, if_neg (fun e => hj e.symm), Int.add_zero]
theorem cnt_bd (j : Int) (l : List Int) : 0 ≤ cnt j l ∧ cnt j l ≤ (l.length : Int) := by
  unfold cnt
  have := List.count_le_length (a := j) (l := l)
  omega
theorem owedBy_bd {os : List Outing} {fee : Int} {pleas : List Int} (hx : ∀ o ∈ os, (0 ≤ o.price ∧ o.price ≤ 100000) ∧ o.guests.length ≤ 8) (hf : 0 ≤ fee ∧ fee ≤ 100000) (j : Int) : 0 ≤ owedBy os fee pleas j ∧ owedBy os fee pleas j ≤ 800000 * (os.length : Int) + 100000 * (pleas.length : Int) := by
  have h1 := cnt_bd j pleas
  have h2 : 0 ≤ fee * cnt j pleas := Int.mul_nonneg hf.1 h1.1
  have h3 : fee * cnt j pleas ≤ 100000 * (pleas.length : Int) := Int.mul_le_mul hf.2 h1.2 h1.1 (by omega)
  have h4 : 0 ≤ ((os.filter fun o => o.state == 0).map fun o => o.price * cnt j o.guests).sum ∧ ((os.filter fun o => o.state == 0).map fun o => o.price * cnt j o.guests).sum ≤ 800000 * (os.length : Int) := by
    clear h2 h3
    induction os with
    | nil => simp
    | cons o os ih =>
      have i1 := ih fun y hy => hx y (List.mem_cons_of_mem _ hy)
      have i2 := hx o (List.mem_cons_self ..)
      have i3 := cnt_bd j o.guests
      have i4 : 0 ≤ o.price * cnt j o.guests := Int.mul_nonneg i2.1.1 i3.1
      have i5 : o.price * cnt j o.guests ≤ 100000 * 8 := Int.mul_le_mul i2.1.2 (by omega) (by omega) (by omega)
      rw [List.filter_cons, List.length_cons]
      split
      · rw [List.map_cons, List.sum_cons]; omega
      · omega
  unfold owedBy
  omega
theorem owedAt_bd {os : List Outing} {fee : Int} {o : Outing} {t : Nat} (hx : ∀ o ∈ os, (0 ≤ o.price ∧ o.price ≤ 100000) ∧ o.guests.length ≤ 8) (ho : (0 ≤ o.price ∧ o.price ≤ 100000) ∧ o.guests.length ≤ 8) (hf : 0 ≤ fee ∧ fee ≤ 100000) (j : Int) : 0 ≤ owedAt os fee o t j ∧ owedAt os fee o t j ≤ 800000 * (os.length : Int) + 800000 := by
  have h1 := owedBy_bd (pleas := []) hx hf j
  have h2 := cnt_bd j (o.guests.take t)
  have h3 : (o.guests.take t).length ≤ 8 := by rw [List.length_take]; omega
  have h4 : 0 ≤ o.price * cnt j (o.guests.take t) := Int.mul_nonneg ho.1.1 h2.1
  have h5 : o.price * cnt j (o.guests.take t) ≤ 100000 * 8 := Int.mul_le_mul ho.1.2 (by omega) (by omega) (by omega)
  unfold owedAt
  simp only [List.length_nil] at h1
  split <;> omega
/-- The accounts. -/
def accB (n : Nat) (i : Int) : Bool := decide (0 ≤ i) && decide (i < (n : Int))
theorem accB_succ (n : Nat) (i : Int) : accB (n + 1) i = (i == (n : Int) || accB n i) := by
  unfold accB
  rw [Bool.eq_iff_iff]; simp; omega
theorem accB_iff {n : Nat} {i : Int} : accB n i = true ↔ 0 ≤ i ∧ i < (n : Int) := by unfold accB; simp
end Kr
namespace Go.Proofs.YtihkmkocgmkcjaaGreatDoor
open Go.RowKit Go.Maps Kr
set_option linter.unusedSimpArgs false
set_option linter.unusedVariables false
theorem zero_int (w : World) : (zeroValue 3).run Tryz.prog w = .ok (.int .i64 0) w := by kernel_rfl
/-- What is owed: a map of those who are owed something. -/
def OwedMap (w : World) (b : Nat) (n : Nat) (f : Int → Int) : Prop := ∃ (c : Nat) (D : DataW Value), c ≤ 1000 ∧ w.ownsMap Tryz.prog 3 readSelf b c D ∧ MapOf D (fun i => accB n i && !(f i == 0)) f
end Go.Proofs.YtihkmkocgmkcjaaGreatDoor

/-
  The walk of 'owed': what the office owes to whom.
-/
namespace Go.Proofs.YtihkmkocgmkcjaaGreatDoor
open Go.RowKit Go.Maps Kr
set_option linter.unusedSimpArgs false
set_option linter.unusedVariables false

set_option maxRecDepth 4000 in
set_option maxHeartbeats 8000000 in
theorem office_owed_any (ob : Nat) (m : Kr.Books) (v : BookV) (ts : List (Kr.Scale × Value)) (xs : List OutV) (w : World) (h : BooksAt w m v ts xs) (k1 : w.cell? ⟨ob, 1, none⟩ = some v.cash) (k2 : w.cell? ⟨ob, 2, none⟩ = some v.outs) (k4 : w.cell? ⟨ob, 4, none⟩ = some (.int .i64 m.fee)) (k5 : w.cell? ⟨ob, 5, none⟩ = some v.pleas) (hf : BookFacts m) (hxl : xs.length ≤ 4) :
    Calls Tryz.prog 123 #[.pointer (some ⟨ob, 0, none⟩)] w fun e w' => ∃ b, e = .returned (.map (some b)) ∧ OwedMap w' b m.cash.length (owedBy m.outings m.fee m.pleas) ∧ w.Exts w' := by
  obtain ⟨vb, vc, vo, vr, vp⟩ := v
  obtain ⟨qc, cc, hqc⟩ := h.cash.len
  obtain ⟨qo, bo, oo, co, hqo, hmo, hqo1, hco⟩ := h.outs.ex
  obtain ⟨qp, bp, op_, cp, hqp, hmp, hqp1, hcp⟩ := h.pleas.ex
  dsimp only at hqc hqp hqo k1 k2 k5
  subst hqc hqp hqo
  have hos := h.ose
  have hxo := h.out
  have hol : xs.length = m.outings.length := by rw [← hos, List.length_map]
  have hn8 := hf.cash8
  have hpl := hf.pleas
  have hfee := hf.fee
  have hout := hf.out
  have hplea := hf.plea
  have hprice : ∀ o ∈ m.outings, (0 ≤ o.price ∧ o.price ≤ 100000) ∧ o.guests.length ≤ 8 := fun o ho => by
    have h13 := hout o ho
    have h14 := h13.seats
    have h15 := h13.few
    exact ⟨h13.price, by omega⟩
  have hlay := Lays.of_cell k1
  clear h hf
  have HOL := Lib.hid hol
  clear hol
  have HOS := Lib.hid hos
  clear hos
  have HXO := Lib.hid hxo
  clear hxo
  have HOUT := Lib.hid hout
  clear hout
  have HPLEA := Lib.hid hplea
  clear hplea
  have HPR := Lib.hid hprice
  clear hprice
  have HQO := Lib.hid hqo1
  clear hqo1
  have HCO := Lib.hid hco
  clear hco
  have HQP := Lib.hid hqp1
  clear hqp1
  have HCP := Lib.hid hcp
  clear hcp
  generalize hnn : m.cash.length = n at *
  clear hnn
  have hmm := @run_makeMap Tryz.prog
  have hI0 := World.ownsMap_made w Tryz.prog 3 readSelf
  have HI0 := Lib.hid hI0
  clear hI0
  go_enter Tryz.func123, Tryz.ntmps123
  go_wp2_with fail
  go_loopw [4, 20] (fun _ i wr => ∃ (k : Nat) (D : DataW Value), k ≤ n ∧ i = .int .i64 k ∧ Hid (wr.ownsMap Tryz.prog 3 readSelf w.heap.size k D) ∧ Hid (MapOf D (accB k) (fun _ => 0)) ∧ w.Exts wr) (fun _ i _ => n - (intOf i).toNat)
  case atStart => exact ⟨0, .map [], Nat.zero_le _, rfl, Lib.hid HI0.out, Lib.hid (MapOf.nil.same (fun i => by unfold accB; rw [Bool.eq_iff_iff]; first | (simp; done) | (simp; omega)) (fun i hi => rfl)), exq⟩
  case round =>
    obtain ⟨k, D, hk, rfl, HI, HM, hE⟩ := hrel
    rcases Nat.lt_or_ge k n with hlt | hge
    · have hkey : keyOf Tryz.prog 3 (.int .i64 (k : Int)) = some (.int .i64 (k : Int)) := keyOf_int_mk Tryz.underlying3 (WalkArith.wf_i64 (by omega))
      go_wp2_with (at_mapUpdate; refine wpList_mapUpdate_own _ rfl _ _ _ 210 rfl 3 3 law_int Tryz.underlying210 readSelf _ _ D rfl HI.out (by unfold maxLen; omega) _ _ _ rfl rfl hkey _ [] rfl ?_)
      intro w2 hown2 hg2
      have hE2 := exts_turned (b := w.heap.size) hE (Nat.le_refl _) hg2
      have hM2 := (HM.out.put (k : Int) 0).same (q := accB (k + 1)) (g := fun _ => 0) (fun i => (accB_succ k i).symm) (fun i hi => by split <;> rfl)
      have HE2 := Lib.hid hE2
      clear hE2
      have HOWN2 := Lib.hid hown2
      clear hown2
      have HM2 := Lib.hid hM2
      clear hM2
      clear hg2 hE
      go_wp2_with fail
      go_roundw
      case rel => exact ⟨k + 1, _, by omega, by go_num, HOWN2, HM2, HE2.out⟩
      case measure => simp [intOf]; omega
    · have hnl : ¬ k < n := by omega
      have hkn : k = n := by omega
      subst hkn
      have hM2 := HM.out.same (g := owedBy (m.outings.take 0) m.fee []) (fun i => rfl) (fun i _ => by simp [owedBy, cnt])
      have HM2 := Lib.hid hM2
      clear hM2
      have HE := Lib.hid hE
      clear hE
      obtain ⟨X0, rfl⟩ := HE.out
      go_wp2_with fail
      go_loopw [32] (fun i wr => ∃ (t c : Nat) (D : DataW Value), t ≤ xs.length ∧ c ≤ k + 8 * t ∧ i = .int .i64 t ∧ Hid (wr.ownsMap Tryz.prog 3 readSelf w.heap.size c D) ∧ Hid (MapOf D (accB k) (owedBy (m.outings.take t) m.fee [])) ∧ w.Exts wr) (fun i _ => xs.length - (intOf i).toNat)
      case atStart => exact ⟨0, k, D, Nat.zero_le _, by omega, rfl, Lib.hid (HI.out), HM2, exq⟩
      case round =>
        clear HI HM2 HM HE
        obtain ⟨t, c, D, ht, hc, rfl, HI, HM, hE⟩ := hrel
        rcases Nat.lt_or_ge t xs.length with hlt | hge
        · obtain ⟨rfl, hlo⟩ := HQO.out (by omega)
          obtain ⟨⟨o, gs, lv, rv, sv⟩, hx⟩ := some_of_lt hlt
          have hcs := HCO.out t _ hx
          have hxa := HXO.out _ (List.mem_of_getElem? hx)
          have hok : m.outings[t]? = some o := by rw [← HOS.out, List.getElem?_map, hx]; rfl
          have hof := HOUT.out o (List.mem_of_getElem? hok)
          have hop := HPR.out o (List.mem_of_getElem? hok)
          have hpre : ∀ y ∈ m.outings.take t, (0 ≤ y.price ∧ y.price ≤ 100000) ∧ y.guests.length ≤ 8 := fun y hy => HPR.out y (List.mem_of_mem_take hy)
          have htl : (m.outings.take t).length ≤ 4 := by rw [List.length_take]; omega
          have hga := hxa.gs
          have hl1 := hxa.l
          have hl2 := hxa.r
          have hl3 := hxa.s
          dsimp only at hga hl1 hl2 hl3 hcs
          obtain ⟨q1, p1, e1⟩ := hl1.len
          obtain ⟨q2, p2, e2⟩ := hl2.len
          obtain ⟨q3, p3, e3⟩ := hl3.len
          obtain ⟨qg, bg, og, cg, e4, hmg, hqg, hcg⟩ := hga.ex
          subst e1 e2 e3 e4
          have hwho := hof.who
          have hM3 := HM.out.same (q := accB k) (g := owedAt (m.outings.take t) m.fee o 0) (fun i => rfl) (fun i _ => (owedAt_start _ _ _ i).symm)
          have hdone : ∀ j, owedAt (m.outings.take t) m.fee o o.guests.length j = owedBy (m.outings.take (t + 1)) m.fee [] j := owedAt_done hok
          have hskip : ¬ o.state = 0 → ∀ u j, owedAt (m.outings.take t) m.fee o u j = owedBy (m.outings.take t) m.fee [] j := fun hs u j => owedAt_skip u hs j
          have hbd : ∀ u j, 0 ≤ owedAt (m.outings.take t) m.fee o u j ∧ owedAt (m.outings.take t) m.fee o u j ≤ 4000000 := fun u j => by have := owedAt_bd (t := u) hpre hop hfee j; omega
          have hstep : ∀ u a, o.guests[u]? = some a → o.state = 0 → ∀ j, (if j = a then owedAt (m.outings.take t) m.fee o u a + o.price else owedAt (m.outings.take t) m.fee o u j) = owedAt (m.outings.take t) m.fee o (u + 1) j := fun u a h1 h2 j => owedAt_step h1 h2 j
          have hpr1 := hop.1
          have hgl := hop.2
          have hI3 := HI.out
          have HI3 := Lib.hid hI3
          clear hI3
          have HM3 := Lib.hid hM3
          clear hM3
          have HDONE := Lib.hid hdone
          clear hdone
          have HSKIP := Lib.hid hskip
          clear hskip
          have HBD := Lib.hid hbd
          clear hbd
          have HSTEP := Lib.hid hstep
          clear hstep
          have HWHO := Lib.hid hwho
          clear hwho
          have HQG := Lib.hid hqg
          clear hqg
          have HCG := Lib.hid hcg
          clear hcg
          have HCS := Lib.hid hcs
          clear hcs
          obtain ⟨X1, rfl⟩ := hE
          have hEw : w.Exts (World.ext w X1) := ⟨X1, rfl⟩
          clear hxa hok hof hop hpre htl hga hl1 hl2 hl3 hx HM HI
          go_wp2_with (first
            | (refine wpList_load_mid rfl 112 _ rfl bo (oo + t * 23) rfl [.int .i64 o.id, .int .i64 o.pilot, .int .i64 o.seats, .int .i64 o.price, .int .i64 o.part, .int .i64 o.norm.total.lo, .int .i64 o.norm.total.hi, .int .i64 o.norm.added, .int .i64 o.norm.warm, .int .i64 o.norm.hard.lo, .int .i64 o.norm.hard.hi, .bool o.norm.stamp, (.slice qg o.guests.length cg), .bool o.weighed, (.slice q1 o.gear.loads.length p1), .int .i64 o.gear.added, .int .i64 o.gear.base, .int .i64 o.gear.jitter, (.slice q2 o.gear.runners.length p2), (.slice q3 o.gear.strokes.length p3), .int .i64 o.gear.spread, .bool o.gear.stamp, .int .u8 o.state] _ (fun j u hju => hEw.cell (HCS.out j u hju)) Tryz.underlying112 rfl (by kernel_rfl) ?_)
            | (refine wpList_store_new (t := 112) (cells := #[.int .i64 o.id, .int .i64 o.pilot, .int .i64 o.seats, .int .i64 o.price, .int .i64 o.part, .int .i64 o.norm.total.lo, .int .i64 o.norm.total.hi, .int .i64 o.norm.added, .int .i64 o.norm.warm, .int .i64 o.norm.hard.lo, .int .i64 o.norm.hard.hi, .bool o.norm.stamp, (.slice qg o.guests.length cg), .bool o.weighed, (.slice q1 o.gear.loads.length p1), .int .i64 o.gear.added, .int .i64 o.gear.base, .int .i64 o.gear.jitter, (.slice q2 o.gear.runners.length p2), (.slice q3 o.gear.strokes.length p3), .int .i64 o.gear.spread, .bool o.gear.stamp, .int .u8 o.state]) ?hx ?hy ?hi ?ho ?h1 ?_; (case hx => rfl); (case hy => rfl); (case hi => kernel_rfl); (case ho => rfl); (case h1 => simp [Value.oneCell'])))
          have hBM := HI3.out.lt
          have hLA : LaysAs (World.alloc (World.ext w X1) (.cells #[.int .i64 o.id, .int .i64 o.pilot, .int .i64 o.seats, .int .i64 o.price, .int .i64 o.part, .int .i64 o.norm.total.lo, .int .i64 o.norm.total.hi, .int .i64 o.norm.added, .int .i64 o.norm.warm, .int .i64 o.norm.hard.lo, .int .i64 o.norm.hard.hi, .bool o.norm.stamp, (.slice qg o.guests.length cg), .bool o.weighed, (.slice q1 o.gear.loads.length p1), .int .i64 o.gear.added, .int .i64 o.gear.base, .int .i64 o.gear.jitter, (.slice q2 o.gear.runners.length p2), (.slice q3 o.gear.strokes.length p3), .int .i64 o.gear.spread, .bool o.gear.stamp, .int .u8 o.state] 112)) (World.ext w X1).heap.size (.cells [.int .i64 o.id, .int .i64 o.pilot, .int .i64 o.seats, .int .i64 o.price, .int .i64 o.part, .int .i64 o.norm.total.lo, .int .i64 o.norm.total.hi, .int .i64 o.norm.added, .int .i64 o.norm.warm, .int .i64 o.norm.hard.lo, .int .i64 o.norm.hard.hi, .bool o.norm.stamp, (.slice qg o.guests.length cg), .bool o.weighed, (.slice q1 o.gear.loads.length p1), .int .i64 o.gear.added, .int .i64 o.gear.base, .int .i64 o.gear.jitter, (.slice q2 o.gear.runners.length p2), (.slice q3 o.gear.strokes.length p3), .int .i64 o.gear.spread, .bool o.gear.stamp, .int .u8 o.state].toArray 112 (0, 0)) := LaysAs.new (World.ext w X1) (.cells #[.int .i64 o.id, .int .i64 o.pilot, .int .i64 o.seats, .int .i64 o.price, .int .i64 o.part, .int .i64 o.norm.total.lo, .int .i64 o.norm.total.hi, .int .i64 o.norm.added, .int .i64 o.norm.warm, .int .i64 o.norm.hard.lo, .int .i64 o.norm.hard.hi, .bool o.norm.stamp, (.slice qg o.guests.length cg), .bool o.weighed, (.slice q1 o.gear.loads.length p1), .int .i64 o.gear.added, .int .i64 o.gear.base, .int .i64 o.gear.jitter, (.slice q2 o.gear.runners.length p2), (.slice q3 o.gear.strokes.length p3), .int .i64 o.gear.spread, .bool o.gear.stamp, .int .u8 o.state] 112)
          have HLA := Lib.hid hLA
          clear hLA
          go_loopw [8, 39] (fun _ i wr => ∃ (u c' : Nat) (D' : DataW Value), u ≤ o.guests.length ∧ c' ≤ c + u ∧ i = .int .i64 u ∧ Hid (wr.ownsMap Tryz.prog 3 readSelf w.heap.size c' D') ∧ Hid (MapOf D' (accB k) (owedAt (m.outings.take t) m.fee o u)) ∧ Hid (LaysAs wr (World.ext w X1).heap.size (.cells [.int .i64 o.id, .int .i64 o.pilot, .int .i64 o.seats, .int .i64 o.price, .int .i64 o.part, .int .i64 o.norm.total.lo, .int .i64 o.norm.total.hi, .int .i64 o.norm.added, .int .i64 o.norm.warm, .int .i64 o.norm.hard.lo, .int .i64 o.norm.hard.hi, .bool o.norm.stamp, (.slice qg o.guests.length cg), .bool o.weighed, (.slice q1 o.gear.loads.length p1), .int .i64 o.gear.added, .int .i64 o.gear.base, .int .i64 o.gear.jitter, (.slice q2 o.gear.runners.length p2), (.slice q3 o.gear.strokes.length p3), .int .i64 o.gear.spread, .bool o.gear.stamp, .int .u8 o.state].toArray 112 (0, 0))) ∧ w.Exts wr) (fun _ i _ => o.guests.length - (intOf i).toNat)
          case atStart => exact ⟨0, c, D, Nat.zero_le _, by omega, rfl, Lib.hid (ownsMap_exts HI3.out exq), HM3, Lib.hid (HLA.out.exts exq), exq⟩
          case round =>
            clear HI3 HM3 HLA
            obtain ⟨u, c', D', hu, hc', rfl, HI, HM, HL, hE⟩ := hrel
            have e3 := LaysAs.cell HL.out 3 _ rfl
            have e22 := LaysAs.cell HL.out 22 _ rfl
            obtain ⟨X2, rfl⟩ := hE
            rcases Nat.lt_or_ge u o.guests.length with hlt2 | hge2
            · obtain ⟨rfl, hlg⟩ := HQG.out (by omega)
              obtain ⟨a, ha⟩ := some_of_lt hlt2
              have d0 := HCG.out u a ha 0 _ rfl
              simp only [Nat.mul_one, Nat.add_zero] at d0
              have hab := HWHO.out a (List.mem_of_getElem? ha)
              by_cases hst : o.state = 0
              · have hs2 := HSTEP.out u a ha hst
                have hacc : accB k a = true := accB_iff.2 (by omega)
                have hkey : keyOf Tryz.prog 3 (.int .i64 a) = some (.int .i64 a) := keyOf_int_mk Tryz.underlying3 (WalkArith.wf_i64 (by omega))
                have hv := HM.out.at_ a (.held (.int .i64 0))
                rw [if_pos hacc] at hv
                have hb9 := HBD.out u a
                obtain ⟨fa, hfa⟩ : ∃ z, owedAt (m.outings.take t) m.fee o u a = z := ⟨_, rfl⟩
                rw [hfa] at hs2 hv hb9
                have hlk := look_own HI.out law_int Tryz.underlying210 (zero_int _) hkey hv
                have hM4 := (HM.out.put a (fa + o.price)).same (q := accB k) (g := owedAt (m.outings.take t) m.fee o (u + 1)) (fun j => by
                  by_cases hj : j = a
                  · subst hj; rw [hacc]; simp
                  · have : (j == a) = false := by simpa using hj
                    rw [this, Bool.false_or]) (fun j _ => hs2 j)
                have HM4 := Lib.hid hM4
                clear hM4
                rw [hst] at e22
                clear hs2 hfa ha hv hst hacc
                go_wp2_with (at_mapUpdate; refine wpList_mapUpdate_own _ rfl _ _ _ 210 rfl 3 3 law_int Tryz.underlying210 readSelf _ _ D' rfl HI.out (by unfold maxLen; omega) _ _ _ rfl rfl hkey _ [] rfl ?_)
                intro w2 hown2 hg2
                have hE2 : w.Exts w2 := exts_turned (b := w.heap.size) exq (Nat.le_refl _) hg2
                have hL2 := HL.out.grown hg2 (by omega)
                have HE2 := Lib.hid hE2
                clear hE2
                have HL2 := Lib.hid hL2
                clear hL2
                have HOWN2 := Lib.hid hown2
                clear hown2
                clear hg2
                go_wp2_with fail
                go_roundw
                case rel => exact ⟨u + 1, c' + 1, _, by omega, by omega, by go_num, HOWN2, HM4, HL2, HE2.out⟩
                case measure => simp [intOf]; omega
              · have h1 := HSKIP.out hst
                have hM4 := HM.out.same (q := accB k) (g := owedAt (m.outings.take t) m.fee o (u + 1)) (fun j => rfl) (fun j _ => by rw [h1, h1])
                have s1 : (o.state == 0) = false := by simpa using hst
                have s2 : decide (o.state = 0) = false := by simpa using hst
                have HM4 := Lib.hid hM4
                clear hM4
                clear h1 hst ha
                go_wp2_with fail
                go_roundw
                case rel => exact ⟨u + 1, c', _, by omega, by omega, by go_num, Lib.hid (ownsMap_exts HI.out exq), HM4, Lib.hid (HL.out.exts exq), exq⟩
                case measure => simp [intOf]; omega
            · have hun : u = o.guests.length := by omega
              have hnl : ¬ u < o.guests.length := by omega
              have hM4 := HM.out.same (q := accB k) (g := owedBy (m.outings.take (t + 1)) m.fee []) (fun j => rfl) (fun j _ => by rw [hun]; exact HDONE.out j)
              have HM4 := Lib.hid hM4
              clear hM4
              clear hun
              go_wp2_with fail
              go_roundw
              case rel => exact ⟨t + 1, c', _, by omega, by omega, by go_num, Lib.hid (ownsMap_exts HI.out exq), HM4, exq⟩
              case measure => simp [intOf]; omega
        · have htn : t = m.outings.length := by have := HOL.out; omega
          have hnl : ¬ t < xs.length := by omega
          have hM3 := HM.out.same (q := accB k) (g := owedBy m.outings m.fee (m.pleas.take 0)) (fun i => rfl) (fun i _ => by rw [htn, List.take_length]; rfl)
          have hI3 := HI.out
          have HI3 := Lib.hid hI3
          clear hI3
          have HM3 := Lib.hid hM3
          clear hM3
          obtain ⟨X1, rfl⟩ := hE
          clear HM HI htn
          go_wp2_with fail
          go_loopw [10, 60] (fun _ i wr => ∃ (u c' : Nat) (D' : DataW Value), u ≤ m.pleas.length ∧ c' ≤ c + u ∧ i = .int .i64 u ∧ Hid (wr.ownsMap Tryz.prog 3 readSelf w.heap.size c' D') ∧ Hid (MapOf D' (accB k) (owedBy m.outings m.fee (m.pleas.take u))) ∧ w.Exts wr) (fun _ i _ => m.pleas.length - (intOf i).toNat)
          case atStart => exact ⟨0, c, D, Nat.zero_le _, by omega, rfl, Lib.hid (ownsMap_exts HI3.out exq), HM3, exq⟩
          case round =>
            clear HI3 HM3
            obtain ⟨u, c', D', hu, hc', rfl, HI, HM, hE⟩ := hrel
            obtain ⟨X2, rfl⟩ := hE
            rcases Nat.lt_or_ge u m.pleas.length with hlt2 | hge2
            · obtain ⟨rfl, hlg⟩ := HQP.out (by omega)
              obtain ⟨a, ha⟩ := some_of_lt hlt2
              have d0 := HCP.out u a ha 0 _ rfl
              simp only [Nat.mul_one, Nat.add_zero] at d0
              have hab := HPLEA.out a (List.mem_of_getElem? ha)
              have hs2 := fun j => owed_plea (os := m.outings) (fee := m.fee) ha j
              have hacc : accB k a = true := accB_iff.2 (by omega)
              have hkey : keyOf Tryz.prog 3 (.int .i64 a) = some (.int .i64 a) := keyOf_int_mk Tryz.underlying3 (WalkArith.wf_i64 (by omega))
              have hv := HM.out.at_ a (.held (.int .i64 0))
              rw [if_pos hacc] at hv
              have hb9 := owedBy_bd (pleas := m.pleas.take u) HPR.out hfee a
              have hul : (m.pleas.take u).length = u := by rw [List.length_take]; omega
              rw [hul] at hb9
              obtain ⟨fa, hfa⟩ : ∃ z, owedBy m.outings m.fee (m.pleas.take u) a = z := ⟨_, rfl⟩
              rw [hfa] at hs2 hv hb9
              have hb8 : 0 ≤ fa ∧ fa ≤ 4000000 := by have := HOL.out; omega
              clear hb9
              have hlk := fun Z : Ext (World.ext w X2) => look_own (ownsMap_exts HI.out (W := World.ext _ Z) exq) law_int Tryz.underlying210 (zero_int _) hkey hv
              have hM4 := (HM.out.put a (fa + m.fee)).same (q := accB k) (g := owedBy m.outings m.fee (m.pleas.take (u + 1))) (fun j => by
                by_cases hj : j = a
                · subst hj; rw [hacc]; simp
                · have : (j == a) = false := by simpa using hj
                  rw [this, Bool.false_or]) (fun j _ => hs2 j)
              have HM4 := Lib.hid hM4
              clear hM4
              clear hs2 hfa ha hv hacc hul
              go_wp2_with fail
              refine wp_region_ext_tail 9 (by kernel_rfl) (by kernel_rfl) ?_
              simp only [List.take_succ_cons, List.take_zero, List.drop_succ_cons, List.drop_zero]
              repeat (go_big_quiet_step (fail))
              refine wpQuiet_nil ?_
              rintro _ ⟨X, rfl⟩
              go_wp2_with (at_mapUpdate; refine wpList_mapUpdate_own _ rfl _ _ _ 210 rfl 3 3 law_int Tryz.underlying210 readSelf _ _ D' rfl (ownsMap_exts HI.out exq) (by unfold maxLen; omega) _ _ _ rfl rfl hkey _ [] rfl ?_)
              intro w2 hown2 hg2
              have hE2 : w.Exts w2 := exts_turned (b := w.heap.size) exq (Nat.le_refl _) hg2
              have HE2 := Lib.hid hE2
              clear hE2
              have HOWN2 := Lib.hid hown2
              clear hown2
              clear hg2
              go_wp2_with fail
              go_roundw
              case rel => exact ⟨u + 1, c' + 1, _, by omega, by omega, by go_num, HOWN2, HM4, HE2.out⟩
              case measure => simp [intOf]; omega
            · have hun : u = m.pleas.length := by omega
              have hnl : ¬ u < m.pleas.length := by omega
              rw [hun, List.take_length] at HM
              clear hun
              obtain ⟨F, hF⟩ : ∃ F, owedBy m.outings m.fee m.pleas = F := ⟨_, rfl⟩
              rw [hF] at HM
              have HF9 := Lib.hid hF
              clear hF
              go_wp2_with (at_range; refine wpList_range_own _ rfl _ 210 rfl 3 3 law_int Tryz.underlying210 readSelf w.heap.size c' D' rfl HI.out ?_; intro w0 hrg0 hg0 hs0)
              have hX0 : w.Exts w0 := grown_extsG hg0 exq
              obtain ⟨r, hr⟩ : ∃ r, (World.ext w X2).heap.size = r := ⟨_, rfl⟩
              have hwr : w.heap.size ≤ r := by rw [← hr]; exact World.size_ext_le _ _
              rw [hr] at hrg0 ⊢
              have hM5 : MapOf D' (fun i => accB k i && (Maps.has D' (.int .i64 i) || !(F i == 0))) F := HM.out.same (fun i => by rw [HM.out.has_]; cases accB k i <;> simp) (fun i _ => rfl)
              have HM5 := Lib.hid hM5
              clear hM5
              have HX0 := Lib.hid hX0
              clear hX0
              clear hg0 hs0 hr HM HI
              go_frame
              go_loopw [11, 12] (fun _ _ wr => ∃ (left : Lit → Bool) (cnt : Nat) (D9 : DataW Value), wr.ranges Tryz.prog 3 readSelf w.heap.size r c' D9 left cnt ∧ Hid (MapOf D9 (fun i => accB k i && (left (.int .i64 i) || !(F i == 0))) F) ∧ w.Exts wr) (fun _ _ wr => wr.rangeLeft w.heap.size r)
              case atStart => exact ⟨_, _, _, hrg0, HM5, HX0.out⟩
              case round =>
                clear hrg0 HM5 HX0
                obtain ⟨left, cnt, D9, hrg, HM9, hE9⟩ := hrel
                go_wp2_with (at_next; refine wpList_next_ranges _ rfl _ rfl 3 law_int readSelf (Value.int .i64) id (fun key kl hkey => by obtain ⟨x, rfl, _⟩ := Maps.keyOf_int_inv Tryz.underlying3 hkey; exact ⟨x, rfl⟩) (fun v y hv => ⟨v, rfl⟩) w.heap.size r c' _ _ _ rfl hrg ?_ ?_)
                · intro hc0 hl0
                  have hMF := HM9.out.same (q := fun i => accB k i && !(F i == 0)) (g := F) (fun i => by rw [hl0, Bool.false_or]) (fun i _ => rfl)
                  have hOW := hrg.owns
                  have HMF := Lib.hid hMF
                  clear hMF
                  have HOW := Lib.hid hOW
                  clear hOW
                  clear hrg hl0
                  go_wp2_with fail
                  go_ret
                  exact ⟨_, rfl, by rw [HF9.out]; exact ⟨_, _, by omega, HOW.out, HMF.out⟩, hE9⟩
                · intro x c9 kl y yp w1 cnt1 hkey hlk hR hat hrg1 hlt9 hg1 hs1 hen
                  obtain ⟨x', ex, rfl, hwx⟩ := Maps.keyOf_int_inv Tryz.underlying3 hkey
                  cases ex
                  obtain ⟨hpx, hyx⟩ := HM9.out.val hat
                  obtain rfl : c9 = .int .i64 (F x) := by
                    simp [readSelf] at hR
                    rw [hyx] at hR
                    have := hR.1
                    simpa using this
                  have hE1 := exts_turned (b := r) hE9 hwr hg1
                  have HE1 := Lib.hid hE1
                  clear hE1
                  clear hR hyx hpx hat hE9 hg1 hs1
                  by_cases hz : F x = 0
                  · have hM6 := (HM9.out.del x).same (q := fun i => accB k i && ((fun z => left z && !z.sameKey (.int .i64 x)) (.int .i64 i) || !(F i == 0))) (g := F) (fun i => by
                      by_cases hi : i = x
                      · subst hi; simp [hz, Lit.sameKey]
                      · have e1 : (i == x) = false := by simpa using hi
                        have e2 : (Lit.int .i64 i).sameKey (.int .i64 x) = false := sameKey_ne (fun e => hi (by cases e; rfl))
                        simp [e1, e2]) (fun i _ => rfl)
                    have HM6 := Lib.hid hM6
                    clear hM6
                    go_wp2_with (at_delete; refine wpList_delete_ranges _ rfl _ _ 210 3 rfl 3 law_int Tryz.underlying210 readSelf w.heap.size r c' _ _ _ rfl hrg1 _ _ rfl hkey ?_; intro w3 cnt3 hrg3 hle3 hturn)
                    rw [strike_twice] at hrg3
                    have hE3 := exts_turned (b := w.heap.size) HE1.out (Nat.le_refl _) hturn.grown
                    go_roundw
                    case rel => exact ⟨_, cnt3, _, hrg3, HM6, hE3⟩
                    case measure => rw [hrg3.left_eq, hrg.left_eq]; omega
                  · have s1 : (F x == 0) = false := by simpa using hz
                    have s2 : decide (F x = 0) = false := by simpa using hz
                    have hM6 := HM9.out.same (q := fun i => accB k i && ((fun z => left z && !z.sameKey (.int .i64 x)) (.int .i64 i) || !(F i == 0))) (g := F) (fun i => by
                      by_cases hi : i = x
                      · subst hi; simp [s1]
                      · have e2 : (Lit.int .i64 i).sameKey (.int .i64 x) = false := sameKey_ne (fun e => hi (by cases e; rfl))
                        simp [e2]) (fun i _ => rfl)
                    have HM6 := Lib.hid hM6
                    clear hM6
                    clear hz
                    go_wp2_with fail
                    go_roundw
                    case rel => exact ⟨_, cnt1, _, hrg1, HM6, HE1.out⟩
                    case measure => rw [hrg1.left_eq, hrg.left_eq]; exact hlt9
end Go.Proofs.YtihkmkocgmkcjaaGreatDoor
