/-
  A virtual semantics of the model's code (31): a region that draws, run; all of it is sound.
-/
import Derived.Test.YtgdpedfahfmjeaaGreatDoorVmBD
namespace Go.Vm
variable {P : Program} {ov : Ov} {r : Rec} {ops : Array Oper} {fr : Fr} {S0 S : St} {ρ ρ0 : Ren} {w w0 : World}

theorem fits_spec {n : Nat} (h : fits ops.toList n = true) {i : Nat} {o : Oper} (ho : ops[i]? = some o) {d : Tmp} (hd : o.dst = some d) : d < n := by
  unfold fits at h
  have := List.all_eq_true.1 h o (by rw [Array.mem_toList_iff]; exact Array.mem_of_getElem? ho)
  simpa [hd, Nat.blt_eq] using this

theorem draw_run (hs : Sounds P ov r) (hok : DrawOk P ops) {l cl : List Nat} (hl : Topo ops l) (hclnd : cl.Nodup) (hclall : ∀ i, i ∈ cl ↔ i < ops.size) (hclpw : cl.Pairwise fun i j => ¬ befB (Region.before ops) j i = true) {C' : List Nat} {F : Nat → Option VV}
    {D : List (Nat × St × St)} {Rd : List (Nat × VV)} {L : CodeR} (hC : Canon P ov r ops fr S0 C' F D Rd) (hE : CanonEnd P ov r ops fr S0 cl C' F D L) {b : Frame} {C : Callers} {p : Option (List PanicEntry)} {a0 : Act} {k : List Item}
    (hrc : RcRel ρ0 b.kind C fr.rc p) (ha : ARel ρ0 fr a0) (hfit : fits ops.toList fr.n = true) :
    ∀ (R E : List Nat) (D1 D2 : List (Nat × St × St)) (ρ : Ren) (w : World) (a : Act), l = E ++ R → MInv P ops F D ρ0 S0 w0 a0 E D1 D2 ρ w a → (∀ j ∈ E, j ∈ C') →
      CodeIs P P.globals.size L ρ0 S0 w0 b C (lone (b.atR a (.inRegion ops R :: k)) (C.at p) w) k := by
  have hn : a0.tmps.size = fr.n := ha.1.1
  intro R
  induction R with
  | nil =>
    intro E D1 D2 ρ w a he hm hEC
    rw [List.append_nil] at he
    subst he
    rcases hE with ⟨rfl, vals, hvals, rfl⟩ | ⟨i, R, ch, S', o, vals, hcl, ho, _⟩
    · have hD2 : D2 = [] := by
        cases D2 with
        | nil => rfl
        | cons x D2 =>
          refine absurd ((hl.all x.1).2 ((hclall x.1).1 (hC.keys x (by rw [hm.split]; simp)))) (hm.in2 x (by simp))
      subst hD2
      have hsp := hm.split
      rw [List.append_nil] at hsp
      subst hsp
      refine ⟨.normal, _, _, List.mem_singleton.2 rfl, ρ, w, p, a, hm.goes, hrc.mono hm.goes.ext, ⟨⟨by rw [hm.size]; exact hn, ?_⟩, by rw [hm.defers]; exact ha.2.mono hm.goes.ext⟩, .one stepR_region_end⟩
      refine drawEnd_rel ops.toList 0 fr.t (fun d v hd => ?_) (fun k' o d v ho hd hv => ?_)
      · rcases hm.slots d with ⟨j, _, oj, q1, q2, _⟩ | ⟨_, q2⟩
        · exact .inr ⟨oj, by rw [Array.mem_toList_iff]; exact Array.mem_of_getElem? q1, q2⟩
        · rw [q2]
          exact .inl ((ha.1.2 d v hd).mono hm.goes.ext)
      · rw [Nat.zero_add] at hv
        have ho' : ops[k']? = some o := by simpa using ho
        have hk' : k' ∈ l := (hl.all k').2 (Array.getElem?_eq_some_iff.1 ho').1
        rcases hm.slots d with ⟨j, _, oj, q1, q2, q3⟩ | ⟨q1, _⟩
        · have : j = k' := hok.one j oj d q1 q2 k' o ho' hd
          subst this
          exact q3 v (hvals _ _ hv)
        · exact absurd hd (q1 k' hk' o ho')
    · exfalso
      have hi : i ∈ l := (hl.all i).2 ((hclall i).1 (by rw [hcl]; simp))
      have := hEC i hi
      rw [hcl] at hclnd
      exact (List.nodup_append.1 hclnd).2.2 i this i (by simp) rfl
  | cons i R ih =>
    intro E D1 D2 ρ w a he hm hEC
    have hS := hm.goes.sim
    have hiE : i ∉ E := fun q => by
      have := hl.nodup
      rw [he] at this
      exact (List.nodup_append.1 this).2.2 i q i (by simp) rfl
    have hnext : ∀ j ∈ E, ¬ befB (Region.before ops) i j = true := fun j hj hb => by
      obtain ⟨E1, E2, rfl⟩ := List.append_of_mem hj
      have := hl.bef E1 j (E2 ++ i :: R) (by rw [he]; simp) i hb
      exact hiE (by simp [this])
    have he' : l = (E ++ [i]) ++ R := by rw [he]; simp
    have hlt : i < ops.size := (hl.all i).1 (by rw [he]; simp)
    -- an operation that wants to run
    have go1 : ∀ (o : Oper) (en : En) (S' : St) (ρ' : Ren) (w' : World), ops[i]? = some o → Region.wanted o (yielded ops a.tmps) = true → (∀ d, o.op ≠ .defer d) → Goes1 P ρ' (b.atR a (.inRegion ops (i :: R) :: k)) (C.at p) (execOp a.eval o) w w' en →
        match en with
        | .returned v => ∃ v', VRel ρ' v v' ∧ Steps P (lone (b.atR a (.inRegion ops (i :: R) :: k)) (C.at p) w) (lone (b.atR (a.put o.dst v') (.inRegion ops R :: k)) (C.at p) w')
        | .panicked ch => ∃ ch', PanRels ρ' ch ch' ∧ Steps P (lone (b.atR a (.inRegion ops (i :: R) :: k)) (C.at p) w) (lone { b.atR a (.inRegion ops (i :: R) :: k) with mode := .panicking ch' } (C.at p) w') := fun o en S' ρ' w' ho hw hnd hgo => by
      cases en with
      | returned v =>
        obtain ⟨v', h1, h2⟩ := hgo
        refine ⟨v', h1, ?_⟩
        rw [finish_op ho v'] at h2
        exact steps_op ho hw (by rw [Oper.semAt_eq _ _ _ hnd]; exact h2)
      | panicked ch =>
        obtain ⟨ch', h1, h2⟩ := hgo
        exact ⟨ch', h1, steps_op ho hw (by rw [Oper.semAt_eq _ _ _ hnd]; exact h2)⟩
    by_cases hi : i ∈ C'
    · obtain ⟨o, vals, ho, hvals, hfact⟩ := hC.fact i hi
      obtain ⟨a', hea, hsame⟩ := env_at hok hl he ho hm ha.1
      have hwant : ∀ q, wantedV ops o (fun d => drawLook ops (Region.before ops) fr vals i d) = some q → Region.wanted o (yielded ops a.tmps) = q := fun q hq => by
        rw [← wanted_rel (tmps := a'.tmps) (hea vals hvals) hq]
        exact (wanted_congr hsame).symm
      have hEC' : ∀ j ∈ E ++ [i], j ∈ C' := fun j hj => by
        rcases List.mem_append.1 hj with hj | hj
        · exact hEC j hj
        · rw [List.mem_singleton.1 hj]; exact hi
      have hfd : ∀ d, o.dst = some d → d < a0.tmps.size := fun d hd => by rw [hn]; exact fits_spec hfit ho hd
      rcases hfact with ⟨h1, h2, h3⟩ | ⟨h1, h2, v, Sa, Sb, h3, h4, h5⟩ | ⟨h1, h2, h3, v, h4, h5, h6⟩
      · -- not wanted
        have hw := hwant false h1
        have hm' : MInv P ops F D ρ0 S0 w0 a0 (E ++ [i]) D1 D2 ρ w (a.put o.dst undef) := hm.put hok ho (.refl hS) hm.split (fun x hx => by simp [hm.in1 x hx])
          (fun x hx q => by
            rcases List.mem_append.1 q with q | q
            · exact hm.in2 x hx q
            · exact h3 x (by rw [hm.split]; simp [hx]) (List.mem_singleton.1 q)) hfd (fun u hu => by rw [h2] at hu; cases hu; exact undef_rel ρ)
        have hstep := stepR_op_skip (P := P) (b := b) (a := a) (k := k) (cs := C.at p) (w := w) (ops := ops) (i := i) (rest := R) (by simp [ho, hw])
        simp only [ho, Option.bind_some] at hstep
        exact .of_steps (.one hstep) (ih (E ++ [i]) D1 D2 ρ w _ he' hm' hEC')
      · -- it writes
        have hw := hwant true h1
        obtain ⟨D2a, D2b, hD⟩ : ∃ Da Db, D = Da ++ (i, Sa, Sb) :: Db := List.append_of_mem h3
        -- all ahead of it are done, none behind
        have hD1 : D1 = D2a := by
          have hiD1 : ∀ x ∈ D1, x.1 ≠ i := fun x hx e => hiE (e ▸ hm.in1 x hx)
          have hpw := hC.ord
          have hsplit : D1 ++ D2 = D2a ++ (i, Sa, Sb) :: D2b := by rw [← hm.split, hD]
          rcases List.append_eq_append_iff.1 hsplit with ⟨X, q1, q2⟩ | ⟨X, q1, q2⟩
          · cases X with
            | nil => rw [q1]; simp
            | cons x X =>
              exfalso
              -- x is ahead of i and not done
              have hx2 : x ∈ D2 := by rw [q2]; simp
              have hb : befB (Region.before ops) x.1 i = true := by
                rw [hD, q1, List.append_assoc, List.pairwise_append] at hpw
                exact (List.pairwise_cons.1 hpw.2.1).1 (i, Sa, Sb) (by simp)
              exact hm.in2 x hx2 (hl.bef E i R he x.1 hb)
          · cases X with
            | nil => rw [q1]; simp
            | cons x X =>
              exfalso
              rw [List.cons_append, List.cons.injEq] at q2
              exact hiD1 x (by rw [q1]; simp) (by rw [← q2.1])
        subst hD1
        have hsplit : D2 = (i, Sa, Sb) :: D2b := by
          have := hm.split
          rw [hD] at this
          exact (List.append_cancel_left this).symm
        have hSa : Sa = endOf S0 D1 := hC.chain D1 (i, Sa, Sb) D2b hD
        rw [hSa] at h4
        obtain ⟨hnd, hsel, ρ1, w1, hg1, hgo⟩ := effectV_sound hs (fun x => evO_rel hS (a := a') (hea vals hvals) x) h4 hS (b.atR a (.inRegion ops (i :: R) :: k)) (C.at p) (plain_op _ _ _ _ _)
        rw [exec_congr hsel hsame] at hgo
        obtain ⟨v', hv', hsteps⟩ := go1 o _ Sb ρ1 w1 ho hw hnd hgo
        have hm' : MInv P ops F D ρ0 S0 w0 a0 (E ++ [i]) (D1 ++ [(i, Sa, Sb)]) D2b ρ1 w1 (a.put o.dst v') := hm.put hok ho (by rw [endOf_snoc]; exact hg1) (by rw [hD]; simp)
          (fun x hx => by
            rcases List.mem_append.1 hx with hx | hx
            · simp [hm.in1 x hx]
            · rw [List.mem_singleton.1 hx]; simp)
          (fun x hx q => by
            rcases List.mem_append.1 q with q | q
            · exact hm.in2 x (by rw [hsplit]; simp [hx]) q
            · have hpw := hC.ord
              rw [hD, List.pairwise_append] at hpw
              have hb := (List.pairwise_cons.1 hpw.2.1).1 x hx
              rw [List.mem_singleton.1 q] at hb
              exact Nat.lt_irrefl _ (bef_back hok.back i i hb)) hfd (fun u hu => by rw [h5] at hu; cases hu; exact hv')
        exact .of_steps hsteps (ih (E ++ [i]) _ D2b ρ1 w1 _ he' hm' hEC')
      · -- it reads
        have hw := hwant true h1
        obtain ⟨vals', hvals', S', hsv⟩ := h6 D1 D2 hm.split (fun x hx => hnext x.1 (hm.in1 x hx)) (fun x hx hb => hm.in2 x hx (hl.bef E i R he x.1 hb))
        obtain ⟨ρ1, w1, _, _, hquiet⟩ := simpleV_sound (P := P) (o := o) hS (fun x => evO_rel hS (a := a') (hea vals' hvals') x) hsv
        obtain ⟨_, _, _, v', hrun, hv'⟩ := hquiet h2
        have hsel : ∀ x y, o.op ≠ .select x y := fun x y e => by rw [e] at hsv; simp [simpleV] at hsv
        have hnd : ∀ d, o.op ≠ .defer d := fun d e => by rw [e] at hsv; simp [simpleV] at hsv
        rw [exec_congr hsel hsame] at hrun
        have happ : Applies P (b.atR a (.inRegion ops (i :: R) :: k)) (C.at p) (execOp a.eval o) w (lone ((b.atR a (.inRegion ops (i :: R) :: k)).finish v') (C.at p) w) := ⟨_, _, _, apply_value hrun, .refl _ _⟩
        obtain ⟨v2, hv2, hsteps⟩ := go1 o (.returned v) S0 ρ w ho hw hnd ⟨v', hv', happ⟩
        have hm' : MInv P ops F D ρ0 S0 w0 a0 (E ++ [i]) D1 D2 ρ w (a.put o.dst v2) := hm.put hok ho (.refl hS) hm.split (fun x hx => by simp [hm.in1 x hx])
          (fun x hx q => by
            rcases List.mem_append.1 q with q | q
            · exact hm.in2 x hx q
            · exact h3 x (by rw [hm.split]; simp [hx]) (List.mem_singleton.1 q)) hfd (fun u hu => by rw [h4] at hu; cases hu; exact hv2)
        exact .of_steps hsteps (ih (E ++ [i]) D1 D2 ρ w _ he' hm' hEC')
    · -- not of those: the one that panics
      rcases hE with ⟨rfl, _⟩ | ⟨ip, Rp, ch, S', o, vals, hcl, ho, hvals, hw0, hk2, hef, hRp, rfl⟩
      · exact absurd ((hclall i).2 hlt) hi
      · have hmem : i ∈ cl := (hclall i).2 hlt
        rw [hcl] at hmem
        rcases List.mem_append.1 hmem with q | q
        · exact absurd q hi
        · rcases List.mem_cons.1 q with rfl | q
          · obtain ⟨a', hea, hsame⟩ := env_at hok hl he ho hm ha.1
            have hw : Region.wanted o (yielded ops a.tmps) = true := by
              rw [← wanted_rel (tmps := a'.tmps) (hea vals hvals) hw0]
              exact (wanted_congr hsame).symm
            have hD2 : D2 = [] := by
              cases D2 with
              | nil => rfl
              | cons x D2 =>
                exfalso
                have hxD : x ∈ D := by rw [hm.split]; simp
                have hxC := hC.keys x hxD
                obtain ⟨ox, hox, hkx⟩ := hC.kind x hxD
                have hne : x.1 ≠ i := fun e => hi (e ▸ hxC)
                rw [hcl, List.pairwise_append] at hclpw
                have hnb := hclpw.2.2 x.1 hxC i (by simp)
                rcases hok.total i o ho hk2 x.1 ox hox hkx with e | e | e
                · exact hne e.symm
                · exact hm.in2 x (by simp) (hl.bef E i R he x.1 e)
                · exact hnb e
            subst hD2
            have hsp := hm.split
            rw [List.append_nil] at hsp
            subst hsp
            obtain ⟨hnd, hsel, ρ1, w1, hg1, hgo⟩ := effectV_sound hs (fun x => evO_rel hS (a := a') (hea vals hvals) x) hef hS (b.atR a (.inRegion ops (i :: R) :: k)) (C.at p) (plain_op _ _ _ _ _)
            rw [exec_congr hsel hsame] at hgo
            obtain ⟨ch', hch, hsteps⟩ := go1 o _ S' ρ1 w1 ho hw hnd hgo
            have hg := hm.goes.trans hg1
            refine ⟨.panic ch, _, _, List.mem_singleton.2 rfl, ρ1, w1, p, a, hg, hrc.mono hg.ext, ⟨⟨by rw [hm.size]; exact hn, ?_⟩, by rw [hm.defers]; exact ha.2.mono hg.ext⟩, .inRegion ops (i :: R) :: k, ch', hch, hsteps⟩
            refine drawLost_rel ops.toList fr.t (fun d v hd => ?_)
            rcases hm.slots d with ⟨j, _, oj, q1, q2, _⟩ | ⟨_, q2⟩
            · exact .inr ⟨oj, by rw [Array.mem_toList_iff]; exact Array.mem_of_getElem? q1, q2⟩
            · rw [q2]
              exact .inl ((ha.1.2 d v hd).mono hg.ext)
          · exfalso
            have hipE := hl.bef E i R he ip (hRp i q)
            have := hEC ip hipE
            rw [hcl] at hclnd
            exact (List.nodup_append.1 hclnd).2.2 ip this ip (by simp) rfl

theorem drawV_sound (hmix : P.follows .mixedOrders = true) (hs : Sounds P ov r) : DrawSound P ov r := by
  intro fi id ops fr S L h ρ w b C p a k hS hx hrc ha
  unfold drawV at h
  cases hok : drawOk P ops && fits ops.toList fr.n with
  | false => simp [hok] at h
  | true =>
    simp only [hok] at h
    simp only [Bool.and_eq_true] at hok
    have hd := drawOk_spec hok.1
    obtain ⟨hnd, hall, hpw⟩ := canonV_spec (P := P) hd.back
    obtain ⟨C', F, D, Rd, hC, hE⟩ := drawGo_canon hd (canonV P ops) [] _ L h ⟨by simp, by simp, by simp, by simp, by simp, by simp⟩ rfl (by simpa using hnd) (by simpa using hpw)
    rw [List.nil_append] at hE
    refine .of_steps (.one stepR_region_draw) ?_
    have hsch : Region.schedule (P.follows .mixedOrders) ops (w.tape w.drawn (.order b.fn id)) = Region.linearise .any ops (w.tape w.drawn (.order b.fn id)) := by
      unfold Region.schedule
      rw [hmix]
      rfl
    rw [hsch]
    have hgs : Goes P.globals.size ρ S w ρ S { w with drawn := w.drawn + 1 } := Goes.same hS rfl rfl rfl
    exact draw_run hs hd (linearise_topo hd.back _) hnd hall hpw hC hE hrc ha hok.2 _ [] [] D ρ _ a rfl ⟨hgs, rfl, by simp, by simp, rfl, fun t => .inr ⟨by simp, rfl⟩, rfl⟩ (by simp)

theorem recNone_sound : RecSound P recNone := ⟨fun _ _ _ _ _ h => by simp [recNone] at h, fun _ _ _ _ _ h => by simp [recNone] at h, fun _ _ _ _ _ h => by simp [recNone] at h, fun _ _ _ _ h => by simp [recNone] at h⟩

/-- **what the virtual semantics answers is what the machine does** -/
theorem ev_sound (hmix : P.follows .mixedOrders = true) (hn : NoCount P) (ho : OvSound P ov) : ∀ n, Sounds P ov (ev P ov n)
  | 0 => ⟨recNone_sound, ho, hn, fun _ _ _ _ _ h => by simp [recNone] at h⟩
  | n + 1 => by
    have hs := ev_sound hmix hn ho n
    rw [ev_succ]
    exact ⟨⟨codeV_sound hs (drawV_sound hmix hs) (rangeFuncV_sound hs), callFuncV_sound hs.rec_, unwV_sound hs.rec_ hn hs.call, roundV_sound hs.rec_⟩, ho, hn, callFuncV_body⟩

end Go.Vm
