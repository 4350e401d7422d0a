/- One operation of a region, calls included, is sound: the step. -/
import Derived.Test.YtaojijahpdnjhaaAshStep
set_option linter.all false
namespace Go.Ash
section
variable {L : Link} {N : Nat → Prop} {w : World} {m : PMap} {okb : Nat → Bool} {slots : List Nat} {nt : Nat} {E : List (Option Nat)} {a : Act} {st : St} {env : List AVal}

theorem wanted_ok (i : Inv L N slots nt E a w m st env) {o : Oper} {g : Option (Nat × Bool)} {ops : Array Oper} (hc : chkGuard E ops o.guard g = true) {b : Bool}
    (hw : wantedA env g = some b) : Region.wanted o (yielded ops a.tmps) = b := by
  unfold chkGuard at hc
  split at hc
  · rename_i h1
    simp [wantedA] at hw; subst hw
    simp [Region.wanted, h1]
  · rename_i j want k want' h1
    simp only [Bool.and_eq_true, beq_iff_eq] at hc
    obtain ⟨rfl, hc⟩ := hc
    split at hc
    · rename_i t ht
      simp only [decide_eq_true_eq] at hc
      have hr := i.env k t ht
      simp only [wantedA] at hw
      have hy : yielded ops a.tmps j = match a.tmps[t]? with | some (.bool b) => some b | _ => none := by
        unfold yielded
        rw [hc]; rfl
      simp only [Region.wanted, h1, hy]
      cases hg : gd env k <;> rw [hg] at hw hr <;> try (simp at hw; done)
      · rename_i b'
        have hv := hr.bool_inv
        simp only [Option.some.injEq] at hw
        subst hw
        have : a.tmps[t]? = some (.bool b') := by
          rw [Array.getD_eq_getD_getElem?] at hv
          cases h : a.tmps[t]? with
          | none => rw [h] at hv; simp [undef] at hv
          | some x => rw [h] at hv; simp at hv; rw [hv]
        rw [this]
        cases b' <;> cases want <;> rfl
      · rename_i vs
        cases vs with
        | nil =>
          simp only [Option.some.injEq] at hw
          subst hw
          rw [Array.getD_eq_getD_getElem?] at hr
          cases h : a.tmps[t]? with
          | none => rfl
          | some x =>
            rw [h] at hr; simp at hr
            cases hr; rfl
        | cons x xs => simp at hw
    · simp at hc
  · simp at hc

theorem run_callFunc (hl : LinkOk L okb) {f : Nat} (hok : L.ok f) (args : Array Value) (w : World) : (callFunc (L.fn f) args).run L.P w = .ok (.enter (L.fn f) args) w := by
  obtain ⟨gf, c, h1, h2, h3⟩ := hl.fns f hok
  simp [callFunc, h1, h2, h3]

theorem run_call_value (hl : LinkOk L okb) {o : Oper} {c : Call} {x : Operand} {f : Nat} {first cap : Array Value} {ρ : Operand → Value} (ho : o.op = .call c)
    (hc : c.callee = .value x) (hx : ρ x = .func (.func (L.fn f)) first cap) (hok : L.ok f) (w : World) :
    (execOp ρ o).run L.P w = .ok (.enter (L.fn f) (first ++ c.args.map ρ ++ cap)) w := by
  have := run_callFunc hl hok (first ++ c.args.map ρ ++ cap) w
  simp only [execOp, ho, resolve, hc, hx, Deferred.ofValue, Sem.run_bind, Sem.run_pure, Result.andThen_ok, invoke, this]

theorem args_reps {B : Nat → Prop} {ρ : Operand → Value} {xs : Array Operand} {vs : List AVal} (h : Args L w B m ρ xs.toList vs) :
    (xs.map ρ).size = vs.length ∧ ∀ (i : Nat) (c : AVal), vs[i]? = some c → Reps L w B m ((xs.map ρ).getD i undef) c := args_arr h

theorem reps_append {B : Nat → Prop} {as bs : Array Value} {vs us : List AVal} (hl : as.size = vs.length)
    (ha : ∀ (i : Nat) (c : AVal), vs[i]? = some c → Reps L w B m (as.getD i undef) c) (hb : ∀ (i : Nat) (c : AVal), us[i]? = some c → Reps L w B m (bs.getD i undef) c) :
    ∀ (i : Nat) (c : AVal), (vs ++ us)[i]? = some c → Reps L w B m ((as ++ bs).getD i undef) c := by
  intro i c hc
  rw [Array.getD_eq_getD_getElem?]
  by_cases h : i < vs.length
  · rw [List.getElem?_append_left h] at hc
    rw [Array.getElem?_append_left (by omega)]
    have := ha i c hc
    rwa [Array.getD_eq_getD_getElem?] at this
  · rw [List.getElem?_append_right (by omega)] at hc
    rw [Array.getElem?_append_right (by omega), hl]
    have := hb _ c hc
    rwa [Array.getD_eq_getD_getElem?] at this

theorem anyCall_ok {call : CallF} (hcall : CallOk L call) {raw : Bool} {f : Nat} {args : List AVal} {H H' : Heap} {v : AVal} (hs : anyCall call raw f args H = some (v, H')) (hok : L.ok f)
    (s : Sim L N w H.at m) (d : Dom H m) {us : Array Value} (hl : us.size = args.length) (hr : ∀ (i : Nat) (c : AVal), args[i]? = some c → Reps L w (Bof N H.at m) m (us.getD i undef) c) :
    Calls L.P (L.fn f) us w fun e w' => ∃ u m', e = .returned u ∧ Step L N w H.at m w' H'.at m' ∧ Dom H' m' ∧ H.length ≤ H'.length ∧ (∀ j, j < H.length → m' j = m j) ∧
      Reps L w' (Bof N H'.at m') m' u v := by
  unfold anyCall at hs
  split at hs
  · exact rawCall_ok hcall hs hok s d hl hr
  · simp only [Option.bind_eq_some_iff, Option.map_eq_some_iff] at hs
    obtain ⟨⟨ts, H1⟩, hh, t, ht, he⟩ := hs
    simp only [Prod.mk.injEq] at he
    obtain ⟨rfl, rfl⟩ := he
    obtain ⟨st1, hlen1, hlen2, hids, hr1⟩ := handOn_ok s hh hr
    refine (pureCall_ok hcall ht hok st1.sim hids (by rw [hlen2]; exact hl) hr1).mono ?_
    rintro e w' ⟨u, rfl, hext, hru⟩
    have st2 := Step.world st1.sim hext
    exact ⟨u, m, rfl, st1.trans st2, fun id p hp => by rw [hlen1]; exact d id p hp, by rw [hlen1]; exact Nat.le_refl _, fun _ _ => rfl, hru⟩

theorem stepOp_plain {call : CallF} {K : OpK} {vs : List AVal} {H : Heap} (h : notCall K = true) :
    stepOp call K vs H = (opSem K vs H H.length).map fun (v, e) => (v, e.apply H) := by
  cases K <;> first | rfl | (simp [notCall] at h)

theorem opStep (hn : slots.Nodup) (hl : LinkOk L okb) {call : CallF} (hcall : CallOk L call) (i : Inv L N slots nt E a w m st env) {o : Oper} {r : ROp} {ops : Array Oper}
    (hchk : chkROp L.P L.fn L.ty okb slots nt ops E o r = true) {v : AVal} {st' : St} (hs : stepROp call r env st = some (v, st')) {K : Act → World → Prop} {Q : Exit → Act → World → Prop}
    (hK : ∀ u w' m', Fwd w st.heap.at m w' st'.heap.at m' → (∀ j, j < st.heap.length → m' j = m j) → st.heap.length ≤ st'.heap.length →
      Inv L N slots nt (o.dst :: E) (a.put o.dst u) w' m' st' (v :: env) → K (a.put o.dst u) w') :
    if Region.wanted o (yielded ops a.tmps) then o.wp L.P a w K Q else K (a.put o.dst undef) w := by
  unfold chkROp at hchk
  simp only [Bool.and_eq_true] at hchk
  obtain ⟨⟨h1, h2⟩, h3⟩ := hchk
  unfold stepROp at hs
  cases hw : wantedA env r.guard with
  | none => rw [hw] at hs; simp at hs
  | some b =>
    rw [hw] at hs
    have hwant := wanted_ok i h3 hw
    cases b with
    | false =>
      rw [hwant, if_neg (by simp)]
      simp only [Option.some.injEq, Prod.mk.injEq] at hs
      obtain ⟨rfl, rfl⟩ := hs
      have hst : st.put r.dst (.tup []) = { st with heap := st.heap }.put r.dst (.tup []) := rfl
      have hheap : (st.put r.dst (.tup [])).heap = st.heap := by cases r.dst <;> rfl
      refine hK undef w m (by rw [hheap]; exact Fwd.refl _ _ _) (fun _ _ => rfl) (by rw [hheap]; exact Nat.le_refl _) ?_
      rw [hst]
      exact i.put hn h2 (Step.refl i.sim) i.dom (.tup #[] [] rfl (fun i c hc => by simp at hc))
    | true =>
      rw [hwant, if_pos rfl]
      simp only at hs
      split at hs
      case isFalse => simp at hs
      case isTrue hap =>
      split at hs
      case h_2 => simp at hs
      case h_1 x v0 H' hstep =>
      simp only [Option.some.injEq, Prod.mk.injEq] at hs
      obtain ⟨rfl, rfl⟩ := hs
      have hheap : ({ st with heap := H' }.put r.dst v0).heap = H' := by cases r.dst <;> rfl
      -- what is left, once the operation has given its value
      have fin : ∀ u w' m', Step L N w st.heap.at m w' H'.at m' → Dom H' m' → st.heap.length ≤ H'.length → (∀ j, j < st.heap.length → m' j = m j) →
          Reps L w' (Bof N H'.at m') m' u v0 → K (a.put o.dst u) w' := by
        intro u w' m' hst hd hlen hpin hr
        exact hK u w' m' (by rw [hheap]; exact hst.toFwd) hpin (by rw [hheap]; exact hlen) (i.put hn h2 hst hd hr)
      cases hops : opsOf L.P L.fn L.ty okb o.op r.k with
      | none => rw [hops] at h1; simp at h1
      | some xs =>
        rw [hops] at h1
        simp only at h1
        have hargs := chkOpds_ok hl i xs r.args h1
        by_cases hnc : notCall r.k = true
        · -- no call
          have hsem : ∃ e, opSem r.k (r.args.map (st.opd env)) st.heap st.heap.length = some (v0, e) ∧ H' = e.apply st.heap := by
            rw [stepOp_plain hnc] at hstep
            simp only [Option.map_eq_some_iff] at hstep
            obtain ⟨⟨v1, e⟩, he1, he2⟩ := hstep
            simp only [Prod.mk.injEq] at he2
            obtain ⟨rfl, rfl⟩ := he2
            exact ⟨e, he1, rfl⟩
          obtain ⟨e, hsem, rfl⟩ := hsem
          have hfit := opSem_fits hsem
          have hfr : st.heap.at st.heap.length = none := heap_at_none (Nat.le_refl _)
          have hmf : m st.heap.length = none := by
            cases h : m st.heap.length with
            | none => rfl
            | some p => exact absurd (i.dom _ _ h) (Nat.lt_irrefl _)
          obtain ⟨rr, w', m', hrun, hplain, hst, hm', hfn, hrep⟩ := (op_sound i.sim hfr hmf (fun _ => rfl) hnc hl.ok hops hargs hsem).does
          rw [← apply_at hfit] at hst hrep hfn
          have hlen : st.heap.length ≤ (e.apply st.heap).length := by
            cases e <;> simp [Eff.apply, newBlk]
          have hdom : Dom (e.apply st.heap) m' := by
            intro id p hp
            by_cases hid : id = st.heap.length
            · rcases Nat.lt_or_ge id (e.apply st.heap).length with h | h
              · exact h
              · have := hfn (heap_at_none (by omega))
                rw [hid, this] at hp; cases hp
            · rw [hm' id hid] at hp
              exact Nat.lt_of_lt_of_le (i.dom id p hp) hlen
          have hfin := fin (nextVal rr) w' m' hst hdom hlen (fun j hj => hm' j (by omega)) hrep
          unfold Oper.wp
          rw [hrun]
          cases rr <;> first | (exact hplain.elim) | exact hfin
        · -- a call
          have hk : (∃ raw f, r.k = .call raw f) ∨ (∃ raw, r.k = .callv raw) := by
            cases hk : r.k <;> rw [hk] at hnc <;> first | exact .inl ⟨_, _, rfl⟩ | exact .inr ⟨_, rfl⟩ | (simp [notCall] at hnc)
          rcases hk with ⟨raw, f, hk⟩ | ⟨raw, hk⟩
          · rw [hk] at hops hstep
            cases hop : o.op <;> rw [hop] at hops <;> simp only [opsOf] at hops <;> try (simp at hops; done)
            rename_i c
            split at hops
            · rename_i g hcal
              split at hops
              · rename_i hcond
                simp only [Option.some.injEq] at hops
                subst hops
                obtain ⟨rfl, hokb⟩ := hcond
                have hok := hl.ok f hokb
                have hrun := run_call_value (ρ := a.eval) hl hop hcal (f := f) (first := #[]) (cap := #[]) rfl hok w
                simp only [Array.empty_append, Array.append_empty] at hrun
                obtain ⟨hsz, hreps⟩ := args_reps hargs
                have hc := anyCall_ok hcall hstep hok i.sim i.dom hsz hreps
                unfold Oper.wp
                rw [hrun]
                refine hc.mono ?_
                rintro e w' ⟨u, m', rfl, hst, hd, hlen, hpin, hru⟩
                exact fin u w' m' hst hd hlen hpin hru
              · simp at hops
            · simp at hops
          · rw [hk] at hops hstep
            cases hop : o.op <;> rw [hop] at hops <;> simp only [opsOf] at hops <;> try (simp at hops; done)
            rename_i c
            split at hops
            · rename_i x hcal
              simp only [Option.some.injEq] at hops
              subst hops
              cases hra : r.args.map (st.opd env) with
              | nil => rw [hra] at hargs; cases hargs
              | cons fv vs =>
                rw [hra] at hargs hstep
                cases hargs with
                | cons hf hargs =>
                  have hfn : ∃ f first cap, fv = .fn f first cap ∧ anyCall call raw f (first ++ vs ++ cap) st.heap = some (v0, H') := by
                    cases fv <;> first | exact ⟨_, _, _, rfl, hstep⟩ | (simp [stepOp, opSem] at hstep)
                  obtain ⟨f, first, cap, rfl, hany⟩ := hfn
                  generalize hxv : a.eval x = fx at hf
                  cases hf with
                  | fn _ _ _ vf vc hok hf1 hc1 rf rc =>
                    have hrun := run_call_value (ρ := a.eval) hl hop hcal (f := f) hxv hok w
                    obtain ⟨hsz, hreps⟩ := args_reps hargs
                    have hr1 := reps_append hf1 rf hreps
                    have hsz1 : (vf ++ c.args.map a.eval).size = (first ++ vs).length := by simp only [Array.size_append, List.length_append, hf1, hsz]
                    have hr2 := reps_append hsz1 hr1 rc
                    have hsz2 : (vf ++ c.args.map a.eval ++ vc).size = (first ++ vs ++ cap).length := by simp only [Array.size_append, List.length_append, hf1, hsz, hc1]
                    have hc := anyCall_ok hcall hany hok i.sim i.dom hsz2 hr2
                    unfold Oper.wp
                    rw [hrun]
                    refine hc.mono ?_
                    rintro e w' ⟨u, m', rfl, hst, hd, hlen, hpin, hru⟩
                    exact fin u w' m' hst hd hlen hpin hru
            · simp at hops
end
end Go.Ash
