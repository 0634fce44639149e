/-
  Several texts in one: see the heads of its parts.
-/

import Derived.Test.YtcickafaomfbmaaGreatDoorZSBksBt
import Derived.Test.YtcickafaomfbmaaGreatDoorZSBksVjL
import Derived.Test.YtcickafaomfbmaaGreatDoorZSBksWtB
import Derived.Test.YtcickafaomfbmaaGreatDoorZSBksTq
import Derived.Test.YtcickafaomfbmaaGreatDoorZSBksBs
/-
  A region that draws its order, and holds calls, blocks that are made, and one step that writes (an append) among operations that read: the law of XCalls with a condition of the user's own, which may lean on what has run, in the place of 'worlds that extend a world'.
-/
namespace Go
open Go.RowKit

theorem gives_eval {a b : Act} {o : Oper} {ts : List Nat} (ho : o.opTmps = some ts) (h : ∀ d ∈ ts, a.tmps[d]? = b.tmps[d]?) : execOp a.eval o = execOp b.eval o := by
  unfold Oper.opTmps at ho
  split at ho
  · rename_i c hop
    cases ho
    have e1 : c.args.map a.eval = c.args.map b.eval := by
      apply Array.map_congr_left
      intro x hx
      exact eval_tmp_eq fun d hd => h d (List.mem_append_left _ (List.mem_flatMap.2 ⟨x, by simpa using hx, hd⟩))
    have e2 : resolve a.eval c o.type = resolve b.eval c o.type := by
      unfold resolve
      rw [e1]
      cases hc : c.callee with
      | builtin b => rfl
      | invoke r name =>
        have : a.eval r = b.eval r := eval_tmp_eq fun d hd => h d (List.mem_append_right _ (by rw [hc]; exact hd))
        simp [this]
      | value f =>
        have : a.eval f = b.eval f := eval_tmp_eq fun d hd => h d (List.mem_append_right _ (by rw [hc]; exact hd))
        simp [this]
    unfold execOp
    simp only [hop, e2]
  · rename_i t n parts hop
    cases ho
    have e1 : (parts.map fun x => (x.1, a.eval x.2)) = parts.map fun x => (x.1, b.eval x.2) := by
      apply Array.map_congr_left
      intro x hx
      have : a.eval x.2 = b.eval x.2 := eval_tmp_eq fun d hd => h d (List.mem_flatMap.2 ⟨x, by simpa using hx, hd⟩)
      rw [this]
    unfold execOp
    simp only [hop, e1]
  · rename_i t parts hop
    cases ho
    have e1 : (parts.map fun x => (x.1, a.eval x.2)) = parts.map fun x => (x.1, b.eval x.2) := by
      apply Array.map_congr_left
      intro x hx
      have : a.eval x.2 = b.eval x.2 := eval_tmp_eq fun d hd => h d (List.mem_flatMap.2 ⟨x, by simpa using hx, hd⟩)
      rw [this]
    unfold execOp
    simp only [hop, e1]
  · rename_i t x hop
    cases ho
    have e1 : a.eval x = b.eval x := eval_tmp_eq h
    unfold execOp
    simp only [hop, e1]
  · rename_i t hop
    unfold execOp
    simp only [hop]
  · cases ho
/-- An operation, as it stands: what comes of it; a store, too. -/
def Oper.givesI (P : Program) (o : Oper) (ρ : Operand → Value) (w : World) (R : Value → World → Prop) : Prop := o.gives P ρ w R ∨ ∃ w', (execOp ρ o).run P w = .ok .skip w' ∧ R undef w'
section
variable {P : Program} {md : Region.Mode} {l : List Oper} {n : Nat} {U : Nat → Bool} {Q : Exit → Act → World → Prop} {g : Nat} {A : (Nat → Value) → Act} {Φ : Nat → Value → World → Prop} {C : World → Prop} {Inv : Array Bool → World → Prop}
end

end Go

/-
  A region that draws its order, holds calls whose guards may be false, and may write into blocks of its own: the law of XCallsS, where each operation says what it keeps.
-/
namespace Go
open Go.RowKit

/-- The temporaries that such an operation reads; a store's, too. -/
def Oper.opTmpsW (o : Oper) : Option (List Nat) :=
  match o.op with
  | .store _ x y => some (x.tmpOf ++ y.tmpOf)
  | .convert _ _ x => some x.tmpOf
  | _ => o.opTmpsK
theorem givesI_congrK {P : Program} {a b : Act} {o : Oper} {ts : List Nat} {W : World} {R : Value → World → Prop} (ho : o.opTmpsW = some ts) (h : ∀ d ∈ ts, a.tmps[d]? = b.tmps[d]?) (hg : o.givesI P b.eval W R) : o.givesI P a.eval W R := by
  unfold Oper.opTmpsW at ho
  split at ho
  · rename_i t x y hop
    cases ho
    have e1 : a.eval x = b.eval x := eval_tmp_eq fun d hd => h d (List.mem_append_left _ hd)
    have e2 : a.eval y = b.eval y := eval_tmp_eq fun d hd => h d (List.mem_append_right _ hd)
    have e : execOp a.eval o = execOp b.eval o := by unfold execOp; simp only [hop, e1, e2]
    unfold Oper.givesI Oper.gives at hg ⊢
    rw [e]; exact hg
  · rename_i s d x hop
    cases ho
    have e1 : a.eval x = b.eval x := eval_tmp_eq h
    have e : execOp a.eval o = execOp b.eval o := by unfold execOp; simp only [hop, e1]
    unfold Oper.givesI Oper.gives at hg ⊢
    rw [e]; exact hg
  · rename_i hns
    rcases hg with hg | ⟨w', hr, hR⟩
    · exact .inl (gives_congrK ho h hg)
    · refine .inr ⟨w', ?_, hR⟩
      have e : execOp a.eval o = execOp b.eval o := by
        unfold Oper.opTmpsK at ho
        split at ho
        · rename_i x i hop
          cases ho
          have e1 : a.eval x = b.eval x := eval_tmp_eq h
          unfold execOp; simp only [hop, e1]
        · rename_i x hop
          cases ho
          have e1 : a.eval x = b.eval x := eval_tmp_eq h
          unfold execOp; simp only [hop, e1]
        · rename_i x hop
          cases ho
          have e1 : a.eval x = b.eval x := eval_tmp_eq h
          unfold execOp; simp only [hop, e1]
        · exact gives_eval ho h
      rw [e]; exact hr
def Region.fedW (md : Region.Mode) (l : List Oper) (U : Nat → Bool) : Bool := (List.range l.length).all fun i => !U i || match l[i]? with
  | some o => match o.opTmpsW with
    | some ts => (ts.all fun d => (List.range l.length).all fun j => decide ((l[j]?).bind (·.dst) ≠ some d) || o.after.any fun e => Region.binds md e && e.on == j)
    | none => false
  | none => true

section
variable {P : Program} {md : Region.Mode} {l : List Oper} {n : Nat} {U : Nat → Bool} {w : World} {Q : Exit → Act → World → Prop} {g : Nat} {A : (Nat → Value) → Act} {Φ : Nat → Value → World → Prop} {kv : Nat → Option Value}

theorem HeadW.any (hkv : ∀ c v W u, Φ c v W → kv c = some u → v = u) (hD : Region.dstsB l = true) (hback : Region.backK md l = true) (hfed : Region.fedW md l U = true) (hgu : ∀ ν, Knows kv ν → ∀ i oi, l[i]? = some oi → U i = true → (Region.wanted oi (yielded l.toArray (A ν).tmps) = true ∨ (Region.wanted oi (yielded l.toArray (A ν).tmps) = false ∧ ∀ W, Φ i undef W)) ∧ ∀ gi pol, oi.guard = some (gi, pol) → ∃ e ∈ oi.after, Region.binds md e = true ∧ e.on = gi) (hp : ∀ i o, l[i]? = some o → i < n → U i = false → o.plainB = true) (hg : g = l.length - n) (hn : n ≤ l.length)
    (hcall : ∀ c oc, l[c]? = some oc → U c = true → ∀ ν, Knows kv ν → Region.wanted oc (yielded l.toArray (A ν).tmps) = true → ∀ W, w.Exts W → (∀ c', U c' = true → (∃ e ∈ oc.after, Region.binds md e = true ∧ e.on = c') → Φ c' (ν c') W) → oc.givesI P (A ν).eval W fun v W' => w.Exts W' ∧ Φ c v W' ∧ ∀ c' v', U c' = true → c' ≠ c → Φ c' v' W → Φ c' v' W')
    (htail : ∀ ν, Knows kv ν → ∀ W, w.Exts W → (∀ c, c < n → U c = true → Φ c (ν c) W) → wpList P l.toArray Q (l.drop n) (A ν) W) :
    ∀ (f : Nat) (listed : Array Bool) (a : Act) (W : World) (ν : Nat → Value), Knows kv ν → listed.size = l.length → w.Exts W → (∀ c, c < l.length → U c = true → listed.getD c true = true → Φ c (ν c) W) →
      (∀ ν', Knows kv ν' → (∀ c, c < l.length → U c = true → listed.getD c true = true → ν' c = ν c) → HeadC P md l U n w A g ν' f listed a) → wpAny P md l.toArray Q (f + g) listed a W
  | 0, listed, a, W, ν, hkn, hsz, hE, hK, h => by
    obtain ⟨h1, rfl⟩ := h ν hkn (fun _ _ _ _ => rfl)
    rw [seqB_modU] at h1
    have hall : ∀ c, c < n → listed.getD c true = true := by
      intro c
      induction c using Nat.strongRecOn with
      | _ c ih =>
        intro hc
        cases hl : listed.getD c true with
        | true => rfl
        | false =>
          obtain ⟨o, ho⟩ : ∃ o, l[c]? = some o := ⟨_, List.getElem?_eq_getElem (by omega)⟩
          have := seqB_ready h1 c (mem_ready.2 ⟨hl, o, by simpa using ho, fun e he hb => by
            have hlt := backK_spec hback ho e he hb
            have := ih e.on hlt (by omega)
            rw [Array.getD_eq_getD_getElem?] at this ⊢
            rw [Array.getElem?_eq_getElem (by rw [hsz]; omega)] at this ⊢
            exact this⟩)
          omega
    have h2 := wpAny_of_seq (md := md) (Q' := Q) (l.drop n) n listed (A ν) W (fun j => by simp [List.getElem?_drop]) (by rw [List.length_drop, ← hg]; exact h1) (htail ν hkn W hE fun c hc hU => hK c (by omega) hU (hall c hc))
    rw [List.length_drop, ← hg] at h2
    rw [Nat.zero_add]; exact h2
  | f + 1, listed, a, W, ν, hkn, hsz, hE, hK, h => by
    rw [Nat.add_right_comm]
    have h0 := h ν hkn (fun _ _ _ _ => rfl)
    have hne := h0.1
    rw [ready_modU] at hne
    refine ⟨fun h0 => absurd h0 hne, fun i hi => ?_⟩
    obtain ⟨hun, oi, hoi, hwait⟩ := mem_ready.1 hi
    have hoi' : l[i]? = some oi := by simpa using hoi
    have hil : i < l.length := (List.getElem?_eq_some_iff.1 hoi').1
    have hin : i < listed.size := by rw [hsz]; exact hil
    have hW : ∃ X : Ext w, W = w.ext X := hE
    have hlt : i < n := (h0.2 i (by rw [ready_modU]; exact hi)).1
    cases hU : U i with
    | false =>
      have hset : ∀ ν', (modU l U ν').toArray[i]? = some oi := fun ν' => by rw [List.getElem?_toArray, modU_get, hoi', Option.map_some, hU]; rfl
      have each : ∀ ν', Knows kv ν' → (∀ c, c < l.length → U c = true → listed.getD c true = true → ν' c = ν c) → ∃ v, YieldsIn P (modU l U ν').toArray (fun W => ∃ X : Ext w, W = w.ext X) oi v a ∧ HeadC P md l U n w A g ν' f (listed.setIfInBounds i true) (a.put oi.dst v) := fun ν' hkn' hν' =>
        yieldsIn_of_qOp (hset ν') ((h ν' hkn' hν').2 i (by rw [ready_modU]; exact hi)).2
      have hpl := hp i oi hoi' hlt hU
      obtain ⟨v, hy, hv⟩ := each ν hkn (fun _ _ _ _ => rfl)
      refine wpOp_of_yields hoi (yielded_modU ν _) hpl hW hy ?_
      refine HeadW.any hkv hD hback hfed hgu hp hg hn hcall htail f _ _ W ν hkn (by simpa using hsz) hE (fun c hc hUc hl => ?_) (fun ν' hkn' hν' => ?_)
      · by_cases hci : c = i
        · subst hci; rw [hU] at hUc; cases hUc
        · rw [getD_set_ne true (Ne.symm hci)] at hl; exact hK c hc hUc hl
      · have hag : ∀ c, c < l.length → U c = true → listed.getD c true = true → ν' c = ν c := fun c hc hUc hl => by
          by_cases hci : c = i
          · subst hci; rw [hU] at hUc; cases hUc
          · exact hν' c hc hUc (by rw [getD_set_ne true (Ne.symm hci)]; exact hl)
        obtain ⟨v', hy', hv'⟩ := each ν' hkn' hag
        have hvv : v = v' := by
          unfold YieldsIn at hy hy'
          rw [yielded_modU] at hy hy'
          rcases hy with ⟨hw1, hq1⟩ | ⟨hw1, e1⟩ <;> rcases hy' with ⟨hw2, hq2⟩ | ⟨hw2, e2⟩
          · exact quietUpon_same (fun _ _ _ => Oper.not_enter hpl) (hq1 W hW) (hq2 W hW)
          · rw [hw1] at hw2; cases hw2
          · rw [hw1] at hw2; cases hw2
          · rw [e1, e2]
        rw [hvv]; exact hv'
    | true =>
      have hset : ∀ ν', (modU l U ν').toArray[i]? = some (cOp oi (ν' i)) := fun ν' => by rw [List.getElem?_toArray, modU_get, hoi', Option.map_some, hU]; rfl
      have hfd := List.all_eq_true.1 hfed i (List.mem_range.2 hil)
      simp only [hU, hoi', Bool.not_true, Bool.false_or] at hfd
      split at hfd
      case h_2 => cases hfd
      rename_i ts hop
      simp only [List.all_eq_true, List.mem_range] at hfd
      obtain ⟨hwn, hgd⟩ := hgu ν hkn i oi hoi' hU
      have hwe : Region.wanted oi (yielded l.toArray a.tmps) = Region.wanted oi (yielded l.toArray (A ν).tmps) := by
        cases hgc : oi.guard with
        | none => unfold Region.wanted; rw [hgc]
        | some gp =>
          obtain ⟨gi, pol⟩ := gp
          obtain ⟨e2, he2, hb2, hon2⟩ := hgd gi pol hgc
          have hgl : gi < l.length := by have := backK_spec hback hoi' e2 he2 hb2; omega
          have hlist := hwait e2 he2 hb2
          rw [hon2, Array.getD_eq_getD_getElem?, Array.getElem?_eq_getElem (by rw [hsz]; exact hgl)] at hlist
          have hsame : yielded l.toArray a.tmps gi = yielded l.toArray (A ν).tmps gi := by
            unfold yielded
            obtain ⟨og, hog⟩ : ∃ og, l[gi]? = some og := ⟨_, List.getElem?_eq_getElem hgl⟩
            rw [List.getElem?_toArray, hog, Option.bind_some]
            cases hdg : og.dst with
            | none => rfl
            | some d =>
              rw [Option.bind_some, Option.bind_some]
              have : a.tmps[d]? = (A ν).tmps[d]? := by
                refine HeadAny.val (A := A ν) (fun _ _ h => h.2) (f + 1) _ _ d (fun j oj hj hl e => ?_) h0
                rw [List.getElem?_toArray, modU_get] at hj
                cases hlj : l[j]? with
                | none => rw [hlj] at hj; cases hj
                | some o' =>
                  rw [hlj] at hj
                  simp only [Option.map_some, Option.some.injEq] at hj
                  have e' : o'.dst = some d := by
                    rw [← hj] at e
                    split at e
                    · exact e
                    · exact e
                  obtain rfl := dstsB_spec hD hog hlj hdg e'
                  rw [Array.getD_eq_getD_getElem?, Array.getElem?_eq_getElem (by rw [hsz]; exact hgl)] at hl
                  simp only [Option.getD_some] at hlist hl
                  rw [hl] at hlist
                  cases hlist
              rw [this]
          unfold Region.wanted
          rw [hgc]
          dsimp only
          rw [hsame]
      have next : ∀ v W', (Region.wanted oi (yielded l.toArray a.tmps) = true ∨ (Region.wanted oi (yielded l.toArray a.tmps) = false ∧ v = undef)) → w.Exts W' → Φ i v W' → (∀ c' v', U c' = true → c' ≠ i → Φ c' v' W → Φ c' v' W') → wpAny P md l.toArray Q (f + g) (listed.setIfInBounds i true) (a.put oi.dst v) W' := by
        intro v W' hcs hEW hΦ hPr
        refine HeadW.any hkv hD hback hfed hgu hp hg hn hcall htail f _ _ W' (updU ν i v) (hkn.upd fun u hc => hkv _ _ _ _ hΦ hc) (by simpa using hsz) hEW (fun c' hc' hUc hl => ?_) (fun ν' hkn' hν' => ?_)
        · unfold updU
          by_cases hci : c' = i
          · rw [if_pos hci, hci]; exact hΦ
          · rw [if_neg hci]
            rw [getD_set_ne true (Ne.symm hci)] at hl
            exact hPr c' _ hUc hci (hK c' hc' hUc hl)
        · have hag : ∀ c, c < l.length → U c = true → listed.getD c true = true → ν' c = ν c := fun c hc hUc hl => by
            have hci : c ≠ i := fun e => by rw [e, hun] at hl; cases hl
            have h5 := hν' c hc hUc (by rw [getD_set_ne true (Ne.symm hci)]; exact hl)
            rw [h5]; unfold updU; rw [if_neg hci]
          have hvi : ν' i = v := by
            have h5 := hν' i hil hU (getD_set_same true hin)
            rw [h5]; unfold updU; rw [if_pos rfl]
          obtain ⟨u, hy, hu⟩ := yieldsIn_of_qOp (hset ν') ((h ν' hkn' hag).2 i (by rw [ready_modU]; exact hi)).2
          have huv : u = v := by
            unfold YieldsIn at hy
            rcases hy with ⟨hw, hq⟩ | ⟨hw, hu⟩
            · have h6 := hq W hW
              simp only [Oper.quietAt, cOp, execOp, Sem.run_pure, Oper.quietUpon] at h6
              rw [← h6.2]; exact hvi
            · rw [yielded_modU] at hw
              rw [show Region.wanted (cOp oi (ν' i)) (yielded l.toArray a.tmps) = Region.wanted oi (yielded l.toArray a.tmps) from rfl] at hw
              rcases hcs with hcs | ⟨_, hcs⟩
              · rw [hcs] at hw; cases hw
              · rw [hu, hcs]
          rw [huv] at hu
          exact hu
      rcases hwn with hwn | ⟨hwn, hund⟩
      · have hwa := hwe.trans hwn
        have hgv := hcall i oi hoi' hU ν hkn hwn W hE (fun c' hUc ⟨e, he, hb, hon⟩ => by
          have hlist := hwait e he hb
          rw [hon] at hlist
          have hc' : c' < l.length := by have := backK_spec hback hoi' e he hb; omega
          refine hK c' hc' hUc ?_
          rw [Array.getD_eq_getD_getElem?] at hlist ⊢
          rw [Array.getElem?_eq_getElem (by rw [hsz]; exact hc')] at hlist ⊢
          exact hlist)
        have hops : ∀ d ∈ ts, a.tmps[d]? = (A ν).tmps[d]? := fun d hd => by
          refine HeadAny.val (A := A ν) (fun _ _ h => h.2) (f + 1) _ _ d (fun j oj hj hl e => ?_) h0
          rw [List.getElem?_toArray, modU_get] at hj
          cases hlj : l[j]? with
          | none => rw [hlj] at hj; cases hj
          | some o' =>
            rw [hlj] at hj
            simp only [Option.map_some, Option.some.injEq] at hj
            have e' : o'.dst = some d := by
              rw [← hj] at e
              split at e
              · exact e
              · exact e
            have hjl : j < l.length := (List.getElem?_eq_some_iff.1 hlj).1
            have h3 := hfd d hd j hjl
            rw [hlj] at h3
            simp only [Option.bind_some, e', ne_eq, not_true_eq_false, decide_false, Bool.false_or, Array.any_eq_true'] at h3
            obtain ⟨e2, he2, h4⟩ := h3
            simp only [Bool.and_eq_true, beq_iff_eq] at h4
            have hlist := hwait e2 he2 h4.1
            rw [h4.2] at hlist
            rw [Array.getD_eq_getD_getElem?, Array.getElem?_eq_getElem (by rw [hsz]; exact hjl)] at hlist hl
            simp only [Option.getD_some] at hlist hl
            rw [hl] at hlist
            cases hlist
        have hgv2 := givesI_congrK hop hops hgv
        unfold wpOp
        simp only [hoi]
        rw [if_pos hwa]
        refine .inl ?_
        unfold Oper.wp
        rcases hgv2 with (⟨fn, args, hrun, hc⟩ | ⟨v, W', hrun, hEW, hΦ, hPr⟩) | ⟨W', hrun, hEW, hΦ, hPr⟩
        · rw [hrun, Oper.upon_enter]
          refine hc.mono ?_
          rintro e W' ⟨v, rfl, hEW, hΦ, hPr⟩
          exact next v W' (.inl hwa) hEW hΦ hPr
        · rw [hrun, Oper.upon_value]
          exact next v W' (.inl hwa) hEW hΦ hPr
        · rw [hrun, Oper.upon_skip]
          exact next undef W' (.inl hwa) hEW hΦ hPr
      · have hwa := hwe.trans hwn
        unfold wpOp
        simp only [hoi]
        rw [if_neg (by rw [hwa]; simp)]
        exact next undef W (.inr ⟨hwa, rfl⟩) hE (hund W) (fun _ _ _ _ h => h)
end

end Go

/-
  Walks of the laws' package of sheets: has, choose.
-/
namespace Go.Proofs.YtcickafaomfbmaaGreatDoor
open Go.RowKit Kr
set_option linter.unusedSimpArgs false
set_option linter.unusedVariables false

section
variable {A W W' : World} {e a : Nat} {s s' l r : Value} {xs ys zs : List Nat}
end
section
variable {A W W' : World} {b : Nat}
end
set_option maxHeartbeats 1000000 in
theorem l11_has_any (l : List Int) (v : Value) (n : Int) (w : World) (hrow : IsRow (fun x : Int => [.int .i64 x]) 1 w v l) (hn : l.length ≤ 1000000) :
    Calls Tryz.prog 15 #[v, .int .i64 n] w fun e w' => e = .returned (.bool (decide (n ∈ l))) ∧ w.Exts w' := by
  obtain ⟨p, b, o, cap, rfl, hm, hp, hc⟩ := hrow.ex
  have HQ := Lib.hid hp
  clear hp
  have HC := Lib.hid hc
  clear hc
  clear hrow
  obtain ⟨R, hR⟩ : ∃ r, decide (n ∈ l) = r := ⟨_, rfl⟩
  rw [hR]
  have HR := Lib.hid hR
  clear hR
  go_enter Tryz.func15, Tryz.ntmps15
  go_wp2_with fail
  go_loopw [6, 9] (fun _ i wr => ∃ t : Nat, t ≤ l.length ∧ i = .int .i64 t ∧ Hid (n ∉ l.take t) ∧ w.Exts wr) (fun _ i _ => l.length - (intOf i).toNat)
  case atStart => exact ⟨0, Nat.zero_le _, rfl, Lib.hid (by simp), World.Exts.refl _⟩
  case round =>
    obtain ⟨t, ht, rfl, hno, X3, rfl⟩ := hrel
    rcases Nat.lt_or_ge t l.length with hlt | hge
    · obtain ⟨rfl, hl⟩ := HQ.out (by omega)
      obtain ⟨z, hz⟩ := some_of_lt hlt
      have c0 := HC.out t z hz 0 _ rfl
      simp only [Nat.mul_one, Nat.add_zero] at c0
      have w1 : (t : Int) < (l.length : Int) := by omega
      have hst := take_snoc hz
      have hzm := List.mem_of_getElem? hz
      clear hz HC HQ
      by_cases hzn : z = n
      · subst hzn
        have hyes : true = R := by rw [← HR.out]; simp [hzm]
        subst hyes
        clear hst hzm hno
        go_wp2_with fail
        go_ret
        exact ⟨rfl, exq⟩
      · have z1 : (z == n) = false := beq_eq_false_iff_ne.2 hzn
        have hnew : n ∉ l.take (t + 1) := by
          rw [hst]
          intro hm
          rcases List.mem_append.1 hm with hm | hm
          · exact hno.out hm
          · exact hzn (List.mem_singleton.1 hm).symm
        have HNEW := Lib.hid hnew
        clear hnew
        clear hst hzm hno
        go_wp2_with fail
        go_roundw
        case rel => exact ⟨t + 1, by omega, by go_num, HNEW, exq⟩
        case measure => simp [intOf]; omega
    · have w1 : ¬ (t : Int) < (l.length : Int) := by omega
      have hyes : false = R := by
        rw [← HR.out]
        have h1 := hno.out
        rw [List.take_of_length_le hge] at h1
        simp [h1]
      subst hyes
      clear hno
      go_wp2_with fail
      go_ret
      exact ⟨rfl, exq⟩
end Go.Proofs.YtcickafaomfbmaaGreatDoor
