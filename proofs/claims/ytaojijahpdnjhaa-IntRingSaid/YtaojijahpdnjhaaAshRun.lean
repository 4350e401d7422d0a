/- Functions are sound: what a call gives here, the model's call comes to. -/
import Derived.Test.YtaojijahpdnjhaaAshCode
set_option linter.all false
namespace Go.Ash

def chkRes (P : Program) (slots : List Nat) : List ResultVar → List RRes → Bool
  | [], [] => true
  | .tmp t :: gs, .v i :: rs => decide (slots[i]? = some t) && chkRes P slots gs rs
  | .cell t ty :: gs, .cell i agg sz :: rs => decide (slots[i]? = some t) && decide (aggOf P ty = some agg) && decide (szOf P ty = some sz) && chkRes P slots gs rs
  | _, _ => false

/-- A function's code is the model's. -/
def chkF (P : Program) (fn ty : Nat → Nat) (okb : Nat → Bool) (draw : List Nat → Nat → Array Oper → List ROp → Bool) (gf : Func) (r : RFunc) : Bool :=
  decide r.slots.Nodup && decide (r.npar ≤ gf.ntmps) && (gf.name != "runtime.NumGoroutine") &&
  (match gf.body with
   | some c => (chkC P fn ty okb draw r.slots gf.ntmps [] c r.body).isSome
   | none => false) && chkRes P r.slots gf.results.toList r.res

structure Linked (L : Link) (okb : Nat → Bool) (draw : List Nat → Nat → Array Oper → List ROp → Bool) (F : Nat → Option RFunc) : Prop where
  ok : ∀ g, L.ok g ↔ okb g = true
  fns : ∀ f, okb f = true → ∃ gf r, L.P.funcs[L.fn f]? = some gf ∧ F f = some r ∧ chkF L.P L.fn L.ty okb draw gf r = true
  draw : DrawOk L okb draw

section
variable {L : Link} {N : Nat → Prop} {okb : Nat → Bool} {slots : List Nat} {nt : Nat} {draw : List Nat → Nat → Array Oper → List ROp → Bool} {F : Nat → Option RFunc}

theorem Linked.linkOk (k : Linked L okb draw F) : LinkOk L okb := by
  refine ⟨fun g hg => (k.ok g).2 hg, fun f hf => ?_⟩
  obtain ⟨gf, r, h1, _, h3⟩ := k.fns f ((k.ok f).1 hf)
  unfold chkF at h3
  simp only [Bool.and_eq_true] at h3
  obtain ⟨⟨⟨⟨_, _⟩, h4⟩, h5⟩, _⟩ := h3
  split at h5
  · rename_i c hc
    exact ⟨gf, c, h1, by simpa using h4, hc⟩
  · simp at h5

theorem load_run {w : World} {h : Heap} {m : PMap} (s : Sim L N w h.at m) {t : TypeId} {agg : Bool} {sz fr : Nat} {u : Value} {a v : AVal} {e : Eff} (hag : aggOf L.P t = some agg) (hsz : szOf L.P t = some sz)
    (ha : Reps L w (Bof N h.at m) m u a) (hv : opSem (.load agg sz) [a] h fr = some (v, e)) : ∃ r, (do loadVar t (← asAddr u) : Sem Value).run L.P w = .ok r w ∧ Reps L w (Bof N h.at m) m r v := by
  cases a <;> simp only [opSem] at hv <;> try (simp at hv; done)
  · simp only [Option.map_eq_some_iff] at hv
    obtain ⟨x, hx, he⟩ := hv
    simp only [Prod.mk.injEq] at he
    obtain ⟨rfl, _⟩ := he
    cases ha with
    | ptr ad _ vs hspot hids hcell hrep hB =>
      obtain ⟨r, h1, h2⟩ := run_loadVar_part (a := ad) hag hsz (fun j c hc => ⟨vs j, by rw [addr_add hspot]; exact hcell j c hc, hrep j c hc⟩) hx
      exact ⟨r, by simpa [asAddr] using h1, h2⟩
  · rename_i id i oo
    split at hv
    · rename_i b hb
      split at hv
      · rename_i el hel
        simp only [Option.map_eq_some_iff] at hv
        obtain ⟨x, hx, he⟩ := hv
        simp only [Prod.mk.injEq] at he
        obtain ⟨rfl, _⟩ := he
        cases ha with
        | mptr _ _ _ p hm =>
          obtain ⟨q, arr, el', hq, hes, hn, harr, hszs, hcell⟩ := s.blk _ b hb
          rw [hm] at hq; cases hq
          obtain ⟨r, h1, h2⟩ := run_loadVar_part (a := ⟨p.blk, p.base + i * p.esz + oo, none⟩) (B := Bof N h.at m) (m := m) hag hsz (fun j c hc => by
            rw [List.getElem?_drop] at hc
            obtain ⟨v, hv, hr⟩ := hcell i el (oo + j) c hel hc
            refine ⟨v, ?_, hr⟩
            rw [Addr.add_lit, cells_eq harr]
            rw [← hv]; congr 1; omega) hx
          exact ⟨r, by simpa [asAddr] using h1, h2⟩
      · simp at hv
    · simp at hv

def readRes (tmps : Array Value) : ResultVar → Sem Value
  | .tmp t => pure (tmps.getD t undef)
  | .cell c t => do loadVar t (← asAddr (tmps.getD c undef))

theorem results_eq (gf : Func) (tmps : Array Value) : results gf tmps = (do
    let vs ← gf.results.mapM (readRes tmps)
    pure (if h : vs.size = 1 then vs[0] else .tuple vs)) := rfl

theorem results_ok {E : List (Option Nat)} {a : Act} {w : World} {m : PMap} {st : St} {env : List AVal} (i : Inv L N slots nt E a w m st env) : ∀ (gs : List ResultVar) (rs : List RRes) (vs : List AVal),
    chkRes L.P slots gs rs = true → resL st rs = some vs → ∃ us : List Value, (gs.mapM (readRes a.tmps) : Sem (List Value)).run L.P w = .ok us w ∧ All2 (fun u v => Reps L w (Bof N st.heap.at m) m u v) us vs
  | [], [], vs, _, h => by
    simp only [resL, Option.some.injEq] at h
    subst h
    exact ⟨[], by simp, .nil⟩
  | .tmp t :: gs, .v k :: rs, vs, hc, h => by
    simp only [chkRes, Bool.and_eq_true, decide_eq_true_eq] at hc
    simp only [resL, resA] at h
    split at h
    · rename_i vs' hvs
      simp only [Option.some.injEq] at h
      subst h
      obtain ⟨us, h1, h2⟩ := results_ok i gs rs vs' hc.2 hvs
      exact ⟨a.tmps.getD t undef :: us, by simp only [List.mapM_cons, readRes, Sem.run_bind, Sem.run_pure, Result.andThen_ok, h1], .cons (i.vars k t hc.1) h2⟩
    · simp at h
  | .cell t ty :: gs, .cell k agg sz :: rs, vs, hc, h => by
    simp only [chkRes, Bool.and_eq_true, decide_eq_true_eq] at hc
    obtain ⟨⟨⟨hc1, hc2⟩, hc3⟩, hc4⟩ := hc
    simp only [resL, resA] at h
    split at h
    · rename_i v hv
      simp only [Option.map_eq_some_iff] at hv
      obtain ⟨⟨v', e⟩, hv1, rfl⟩ := hv
      split at h
      · rename_i vs' hvs
        simp only [Option.some.injEq] at h
        subst h
        obtain ⟨us, h1, h2⟩ := results_ok i gs rs vs' hc4 hvs
        obtain ⟨r, h3, h4⟩ := load_run i.sim hc2 hc3 (i.vars k t hc1) hv1
        exact ⟨r :: us, by 
          have h3' : (readRes a.tmps (.cell t ty)).run L.P w = .ok r w := h3
          simp only [List.mapM_cons, Sem.run_bind, h3', Result.andThen_ok, h1, Sem.run_pure], .cons h4 h2⟩
      · simp at h
    · simp at h
  | [], _ :: _, _, hc, _ => by simp [chkRes] at hc
  | .tmp _ :: _, [], _, hc, _ => by simp [chkRes] at hc
  | .cell _ _ :: _, [], _, hc, _ => by simp [chkRes] at hc
  | .tmp _ :: _, .cell _ _ _ :: _, _, hc, _ => by simp [chkRes] at hc
  | .cell _ _ :: _, .v _ :: _, _, hc, _ => by simp [chkRes] at hc

theorem tupled_ok {w : World} {B : Nat → Prop} {m : PMap} {us : List Value} {vs : List AVal} (h : All2 (fun u v => Reps L w B m u v) us vs) :
    Reps L w B m (if h : us.toArray.size = 1 then us.toArray[0] else .tuple us.toArray) (tupled vs) := by
  have tup : us.length ≠ 1 → Reps L w B m (if h : us.toArray.size = 1 then us.toArray[0] else .tuple us.toArray) (.tup vs) := by
    intro hne
    rw [dif_neg (by simpa using hne)]
    have hl := h.length
    refine .tup _ _ (by simpa using hl) fun i c hc => ?_
    have hi : i < us.length := by rw [hl]; exact lt_of_getx hc
    have := h.get (List.getElem?_eq_getElem hi) hc
    simpa [Array.getD, hi] using this
  cases h with
  | nil => exact tup (by simp)
  | cons h1 h2 =>
    cases h2 with
    | nil => simpa [tupled] using h1
    | cons h3 h4 => exact tup (by simp)

theorem leave_ok {E : List (Option Nat)} {a : Act} {w : World} {m : PMap} {st : St} {env : List AVal} (i : Inv L N slots nt E a w m st env) {r : RFunc} {v : AVal} {H' : Heap} {gf : Func}
    (hp : st.pin ≤ st.heap.length) (hc : chkRes L.P slots gf.results.toList r.res = true) (hl : r.leave st = some (v, H')) :
    ∃ u m', (results gf a.tmps).run L.P w = .ok u w ∧ Sim L N w H'.at m' ∧ Dom H' m' ∧ Fwd w st.heap.at m w H'.at m' ∧ st.pin ≤ H'.length ∧ (∀ j, j < st.pin → m' j = m j) ∧ Reps L w (Bof N H'.at m') m' u v := by
  unfold RFunc.leave at hl
  simp only [Option.bind_eq_some_iff] at hl
  obtain ⟨vs, hvs, hl⟩ := hl
  obtain ⟨us, h1, h2⟩ := results_ok i gf.results.toList r.res vs hc hvs
  have hrun : (results gf a.tmps).run L.P w = .ok (if h : us.toArray.size = 1 then us.toArray[0] else .tuple us.toArray) w := by
    rw [results_eq, Array.mapM_eq_mapM_toList]
    simp only [Sem.run_bind, Sem.run_map]
    rw [h1]
    simp only [Result.andThen_ok, Sem.run_pure]
  have hrep := tupled_ok h2
  split at hl
  · simp only [Option.some.injEq, Prod.mk.injEq] at hl
    obtain ⟨rfl, rfl⟩ := hl
    exact ⟨_, m, hrun, i.sim, i.dom, Fwd.refl _ _ _, hp, fun _ _ => rfl, hrep⟩
  · simp only [Option.map_eq_some_iff, Prod.mk.injEq] at hl
    obtain ⟨l, hreach, rfl, rfl⟩ := hl
    obtain ⟨_, hin, hnd, hcl⟩ := reach_spec _ _ _ _ hreach
    obtain ⟨ext, hext⟩ := reach_first (List.range st.pin) _ _ [] l (by simpa using nodup_range st.pin) hreach
    simp only [List.nil_append] at hext
    have hnodup := hnd List.nodup_nil
    have hclosed : ∀ x ∈ l, ∀ b, st.heap.at x = some b → ∀ y ∈ idsL b.elems, y ∈ l := fun x hx => hcl x hx (by simp)
    obtain ⟨sp, dp, hBM⟩ := i.sim.pack (N' := N) hnodup hclosed (fun b hb => .inl hb) (by
      intro id _ k p hk hpp
      obtain ⟨q, _, _, hq, _, hn, _⟩ := i.sim.blk id k hk
      rw [hpp] at hq; cases hq
      exact hn)
    refine ⟨_, packM m l, hrun, sp, dp, pack_fwd hBM, ?_, ?_, (hrep.pack (fun id hid => hin id (List.mem_append_right _ hid))).less (fun b hb => hb.imp (fun h => h) (hBM b))⟩
    · simp only [pack, List.length_map]
      rw [hext]; simp
    · intro j hj
      have : l[j]? = some j := by
        rw [hext, List.getElem?_append_left (by simpa using hj)]
        simp [hj]
      simp only [packM, this, Option.bind_some]

theorem enter_vars (npar : Nat) (args : List AVal) : ∀ (sl : List Nat) (i t : Nat), sl[i]? = some t →
    gd (sl.map fun t => if t < npar then gd args t else .und) i = if t < npar then gd args t else .und
  | [], _, _, h => by simp at h
  | s :: sl, 0, t, h => by simp at h; subst h; rfl
  | s :: sl, i + 1, t, h => by simp at h; simp only [List.map_cons, gd]; exact enter_vars npar args sl i t h

theorem run_step (k : Linked L okb draw F) {ex : RCode → St → Option (Ex × St)}
    (hex : ∀ (slots : List Nat) (nt : Nat), slots.Nodup → ∀ (r : RCode) (c : Code) (E' : List (Option Nat)) (st st' : St) (e : Ex), chkC L.P L.fn L.ty okb draw slots nt [] c r = some E' → ex r st = some (e, st') →
      ∀ (N : Nat → Prop) (a : Act) (w : World) (m : PMap) (Q : Exit → Act → World → Prop), Inv L N slots nt [] a w m st st.env → st.pin ≤ st.heap.length →
      (∀ e' a' w', exRel e e' → Post L N slots nt w st m (if e = .normal then E' else []) st' a' w' → Q e' a' w') → c.wp L.P Q a w) : CallOk L (runWith F ex) := by
  intro f args H v H' hr hok N w m us s d hl hreps
  obtain ⟨gf, r, hgf, hF, hchk⟩ := k.fns f ((k.ok f).1 hok)
  unfold runWith at hr
  rw [hF] at hr
  simp only at hr
  split at hr
  case isFalse => simp at hr
  case isTrue hnp =>
  cases hx : ex r.body (r.enter args H) with
  | none => rw [hx] at hr; simp at hr
  | some x =>
    obtain ⟨e, st⟩ := x
    rw [hx] at hr
    have hne : ∀ id, e ≠ .exit id := by rintro id rfl; simp at hr
    have hlv : r.leave st = some (v, H') := by
      cases e with
      | normal => exact hr
      | exit id => exact absurd rfl (hne id)
      | ret => exact hr
    unfold chkF at hchk
    simp only [Bool.and_eq_true, decide_eq_true_eq] at hchk
    obtain ⟨⟨⟨⟨hnd, hnt⟩, _⟩, hbody⟩, hres⟩ := hchk
    split at hbody
    case h_2 => simp at hbody
    case h_1 c hc =>
    obtain ⟨E', hE⟩ := Option.isSome_iff_exists.1 hbody
    refine calls_of_wp hgf hc ?_
    have hsz : (us ++ Array.replicate (gf.ntmps - us.size) undef).size = gf.ntmps := by simp; omega
    have inv : Inv L N r.slots gf.ntmps [] { tmps := us ++ Array.replicate (gf.ntmps - us.size) undef, defers := [] } w m (r.enter args H) (r.enter args H).env := by
      refine ⟨hsz, rfl, ?_, fun j t h => by simp at h, s, d⟩
      intro i t hi
      simp only [RFunc.enter]
      rw [enter_vars r.npar args r.slots i t hi]
      split
      · rename_i ht
        have hta : t < args.length := by omega
        have := hreps t (gd args t) (gd_get hta)
        have e1 : (us ++ Array.replicate (gf.ntmps - us.size) undef).getD t undef = us.getD t undef := by
          rw [Array.getD_eq_getD_getElem?, Array.getD_eq_getD_getElem?, Array.getElem?_append_left (by omega)]
        rw [e1]; exact this
      · exact .und _
    refine hex r.slots gf.ntmps hnd r.body c E' _ st e hE hx N _ w m _ inv (Nat.le_refl _) ?_
    intro e' a' w' hrel hpost
    obtain ⟨m1, hi1, hf1, hpin1, hpp1, hlen1⟩ := hpost.post
    obtain ⟨u, m2, hrun, s2, d2, f2, hl2, hp2, hr2⟩ := leave_ok hi1 (by rw [hpp1]; exact hlen1) hres hlv
    have hpin : (r.enter args H).pin = H.length := rfl
    have hheap : (r.enter args H).heap = H := rfl
    have fin : bodyPost L.P gf (fun e w' => ∃ u m', e = .returned u ∧ Sim L N w' H'.at m' ∧ Dom H' m' ∧ Fwd w H.at m w' H'.at m' ∧ H.length ≤ H'.length ∧
        (∀ j, j < H.length → m' j = m j) ∧ Reps L w' (Bof N H'.at m') m' u v) .ret a' w' := by
      refine ⟨hi1.defers, u, hrun, u, m2, rfl, s2, d2, hf1.trans f2, by rw [hpp1, hpin] at hl2; exact hl2, ?_, hr2⟩
      intro j hj
      rw [hp2 j (by rw [hpp1, hpin]; exact hj), hpin1 j (by rw [hpin]; exact hj)]
    cases e with
    | normal => cases e' <;> simp only [exRel] at hrel; exact fin
    | exit id => exact absurd rfl (hne id)
    | ret => cases e' <;> simp only [exRel] at hrel; exact fin

theorem both_ok (k : Linked L okb draw F) : ∀ n, CallOk L (runN F n) ∧ AgainOk L okb draw (execN F n)
  | 0 => by
    refine ⟨?_, ?_⟩
    · intro f args H v H' hr
      unfold runN runWith at hr
      split at hr
      · split at hr
        · simp [execN] at hr
        · simp at hr
      · simp at hr
    · intro slots nt hn live rb st st' ex he
      simp [execN] at he
  | n + 1 => by
    obtain ⟨ihc, iha⟩ := both_ok k n
    refine ⟨?_, ?_⟩
    · refine run_step k ?_
      intro slots nt hn r c E' st st' e hc he N a w m Q i hp hQ
      exact code_sound hn k.linkOk k.draw ihc iha r c [] E' st st' e hc he N a w m Q i hp hQ
    · exact again_succ k.linkOk k.draw ihc iha

/-- What a run of the table gives, the model's call comes to. -/
theorem run_ok (k : Linked L okb draw F) : CallOk L (run F) := by
  intro f args H v H' hr
  obtain ⟨n, hn⟩ := run_iff.1 hr
  exact (both_ok k n).1 f args H v H' hn
end
end Go.Ash
