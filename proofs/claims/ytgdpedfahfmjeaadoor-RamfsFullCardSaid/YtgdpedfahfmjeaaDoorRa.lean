/-
  What is proved here: what ramfs' small functions come to (1). No condition.
-/
import Derived.Test.YtgdpedfahfmjeaaDoorMf
import Derived.Test.YtgdpedfahfmjeaaDoorChecked
import Derived.KernelRfl

/-
  What the seat's types are, for the walks.
-/
namespace Go.Proofs.YtgdpedfahfmjeaaDoor
open Go Go.Vm

@[go_sem] theorem prog_size : Tryd.prog.globals.size = 3 := by kernel_rfl
@[go_sem] theorem agg3 : isAggV Tryd.prog 3 = some false := by kernel_rfl
@[go_sem] theorem agg4 : isAggV Tryd.prog 4 = some false := by kernel_rfl
@[go_sem] theorem agg49 : isAggV Tryd.prog 49 = some false := by kernel_rfl
@[go_sem] theorem agg51 : isAggV Tryd.prog 51 = some true := by kernel_rfl
@[go_sem] theorem agg52 : isAggV Tryd.prog 52 = some true := by kernel_rfl
@[go_sem] theorem size3 : sizeV Tryd.prog 3 = some 1 := by kernel_rfl
@[go_sem] theorem size4 : sizeV Tryd.prog 4 = some 1 := by kernel_rfl
@[go_sem] theorem size49 : sizeV Tryd.prog 49 = some 1 := by kernel_rfl
@[go_sem] theorem size51 : sizeV Tryd.prog 51 = some 3 := by kernel_rfl
@[go_sem] theorem size52 : sizeV Tryd.prog 52 = some 192 := by kernel_rfl
@[go_sem] theorem zero51 : zeroV Tryd.prog 51 = some (.agg [.bool false, .map none, .slice none 0 (.just 0)]) := by kernel_rfl
@[go_sem] theorem und49 : Tryd.prog.underlying 49 = some (.map 9 3) := by kernel_rfl
/-- the fields' addresses -/
@[go_sem] theorem fa57_0 (a : Nat × Nat) : fieldAddrV Tryd.prog 57 (.ptr (some a)) 0 = some (.ptr (some (a.1, a.2 + 0))) := by kernel_rfl
@[go_sem] theorem fa51_1 (a : Nat × Nat) : fieldAddrV Tryd.prog 51 (.ptr (some a)) 1 = some (.ptr (some (a.1, a.2 + 1))) := by kernel_rfl

end Go.Proofs.YtgdpedfahfmjeaaDoor

/-
  What (*metronome/ramfs.FS).links comes to: how many names lead to a node, whatever the order. Conditions: the nodes lie at a; each has no map, or one whose values are numbers.
-/
namespace Go.Proofs.YtgdpedfahfmjeaaDoor
open Go Go.Vm

def leadsTo (n : Int) (v : VV) : Bool := match v with
  | .int .i64 m => m == n
  | _ => false
def cntE (n : Int) (es : List (VV × VV × Nat)) : Nat := es.countP fun e => leadsTo n e.2.1

structure MapOk (es : List (VV × VV × Nat)) (clk : Nat) : Prop where
  nodup : (es.map (·.2.2)).Nodup
  born : ∀ e ∈ es, e.2.2 < clk
  val : ∀ e ∈ es, ∃ m, e.2.1 = .int .i64 m

theorem leftV_eq (seen : List Nat) (es : List (VV × VV × Nat)) : leftV seen es = es.filter fun e => !seen.contains e.2.2 := by
  induction es with
  | nil => rfl
  | cons e es ih =>
    obtain ⟨k, v, b⟩ := e
    simp only [leftV, ih, List.filter_cons]
    cases seen.contains b <;> simp

theorem leftV_nil (es : List (VV × VV × Nat)) : leftV [] es = es := by
  induction es with
  | nil => rfl
  | cons e es ih => obtain ⟨k, v, b⟩ := e; simp only [leftV, ih, List.contains_nil]; rfl

theorem entryOf_mem {es : List (VV × VV × Nat)} (hn : (es.map (·.2.2)).Nodup) {e : VV × VV × Nat} (he : e ∈ es) : entryOf e.2.2 es = some (.tuple [e.1, e.2.1]) := by
  induction es with
  | nil => cases he
  | cons x es ih =>
    obtain ⟨k, v, b⟩ := x
    simp only [List.map_cons, List.nodup_cons] at hn
    simp only [entryOf]
    rcases List.mem_cons.1 he with rfl | he
    · simp
    · have : b ≠ e.2.2 := fun q => hn.1 (q ▸ List.mem_map.2 ⟨e, he, rfl⟩)
      simp only [beq_iff_eq, this, if_false]
      exact ih hn.2 he

/-- one entry less -/
theorem left_less {es : List (VV × VV × Nat)} (hn : (es.map (·.2.2)).Nodup) (seen : List Nat) {e : VV × VV × Nat} (he : e ∈ leftV seen es) (n : Int) :
    cntE n (leftV seen es) = cntE n (leftV (seen ++ [e.2.2]) es) + (if leadsTo n e.2.1 then 1 else 0) ∧ (leftV (seen ++ [e.2.2]) es).length + 1 = (leftV seen es).length := by
  simp only [leftV_eq] at *
  induction es with
  | nil => simp at he
  | cons x es ih =>
    simp only [List.map_cons, List.nodup_cons] at hn
    have hx : ∀ y ∈ es, y.2.2 ≠ x.2.2 := fun y hy q => hn.1 (q ▸ List.mem_map.2 ⟨y, hy, rfl⟩)
    simp only [List.filter_cons] at he ⊢
    by_cases hs : seen.contains x.2.2 = true
    · have hs2 : (seen ++ [e.2.2]).contains x.2.2 = true := by
        rw [List.contains_iff_mem] at hs ⊢
        exact List.mem_append_left _ hs
      simp only [hs, hs2, Bool.not_true, Bool.false_eq_true, if_false] at he ⊢
      exact ih hn.2 he
    · have hs' : seen.contains x.2.2 = false := by simpa using hs
      simp only [hs', Bool.not_false, if_true] at he ⊢
      by_cases hxe : x.2.2 = e.2.2
      · have hex : e = x := by
          rcases List.mem_cons.1 he with h | h
          · exact h
          · exact absurd hxe.symm (hx e (List.mem_filter.1 h).1)
        subst hex
        have h2 : (seen ++ [e.2.2]).contains e.2.2 = true := by simp
        have h3 : (es.filter fun y => !(seen ++ [e.2.2]).contains y.2.2) = es.filter fun y => !seen.contains y.2.2 := by
          refine List.filter_congr fun y hy => ?_
          have := hx y hy
          congr 1
          rw [Bool.eq_iff_iff, List.contains_iff_mem, List.contains_iff_mem, List.mem_append, List.mem_singleton]
          simp [this]
        simp only [h2, h3, Bool.not_true, Bool.false_eq_true, if_false, cntE, List.countP_cons, List.length_cons, and_true]
      · have h2 : (seen ++ [e.2.2]).contains x.2.2 = false := by
          rw [Bool.eq_false_iff]
          intro q
          rw [List.contains_iff_mem, List.mem_append, List.mem_singleton] at q
          rcases q with q | q
          · exact hs (List.contains_iff_mem.2 q)
          · exact hxe q
        have he' : e ∈ es.filter fun y => !seen.contains y.2.2 := by
          rcases List.mem_cons.1 he with h | h
          · exact absurd (by rw [h]) hxe
          · exact h
        obtain ⟨i1, i2⟩ := ih hn.2 he'
        simp only [h2, Bool.not_false, if_true, cntE, List.countP_cons, List.length_cons] at i1 i2 ⊢
        omega

def tot (n : Int) (es : Nat → List (VV × VV × Nat)) : Nat → Nat
  | 0 => 0
  | i + 1 => tot n es i + cntE n (es i)

/-- the nodes' names lie so -/
structure NamesAt (S : St) (a : Nat) (maps : Nat → Option Nat) (es : Nat → List (VV × VV × Nat)) : Prop where
  cells : ∃ c k t ro mk l, S.h.get a = some (.cells c k t ro mk) ∧ c.row 0 192 = some l ∧ ∀ i, i < 64 → ∃ b s, (l.drop (i * 3)).take 3 = [.bool b, .map (maps i), s] ∧ s.one = true
  none : ∀ i, i < 64 → maps i = none → es i = []
  some : ∀ i, i < 64 → ∀ r, maps i = some r → ∃ clk, S.h.get r = some (.map (es i) clk) ∧ MapOk (es i) clk

theorem index52 (l : List VV) (i : Nat) (hi : i < 64) : indexV Tryd.prog 52 (.agg l) (.int .i64 (i : Nat)) = some (.agg ((l.drop (i * 3)).take 3)) := by
  have hu : Tryd.prog.underlying 52 = some (.array 64 51) := by kernel_rfl
  have hb : Nat.blt i 64 = true := by simpa [Nat.blt_eq] using hi
  simp [indexV, hu, size51, partV, agg51, hb]

set_option maxRecDepth 10000 in
set_option maxHeartbeats 1000000 in
theorem links_T {ov : Ov} (hb : Base Tryd.prog ov) {S : St} {a : Nat} {maps : Nat → Option Nat} {es : Nat → List (VV × VV × Nat)} (hat : NamesAt S a maps es) (n : Int) :
    CallT Tryd.prog 58 [.ptr (some (a, 0)), .int .i64 n] none S fun e rc S' => e = .returned (.int .i64 (IntKind.i64.wrap (tot n es 64 : Nat))) ∧ rc = none ∧ ∃ N, S.nx ≤ N ∧ N ≤ S.nx + 128 ∧ S' = { h := S.h, nx := N } := by
  refine .of_fresh fun hfresh => ?_
  obtain ⟨⟨c, kk, ty, ro, mk, l, hS, hl, hrow⟩, hnone, hsome⟩ := hat
  refine CallT.func Tryd.func58 rfl (wp_sound hb _ ?_)
  simp only [frameV_eq, tr_setAll_cons, tr_setAll_nil]
  rw [show Nat.max Tryd.f58.ntmps _ = 31 from rfl]
  simp only [wp]
  refine walk (fun Q => by simp [go_sem]; rfl) (seqK_normal ?_)
  refine walk (fun Q => by simp [go_sem]; rfl) (seqK_normal ?_)
  refine walk (fun Q => by simp [go_sem, hS, hl]; rfl) (seqK_normal ?_)
  refine CodeT.forget (fr' := ⟨(((Tr.nil.set 1 (.int .i64 n)).set 5 (.int .i64 (IntKind.i64.wrap (tot n es 0 : Nat)))).set 13 (.agg l)).set 14 (.int .i64 ((0 : Nat) : Int)), 31, [], none⟩) (frIn_of fun i v => ?_) (Within.refl _) ?_
  · simp only [tr_get_set, tr_get_nil]
    intro h
    repeat' split at h
    all_goals (first | (cases h; done) | (simp only [Option.some.injEq] at h; subst h; subst_vars; simp [tot]; try rfl))
  refine CodeT.loop_inv (I := fun m fr S' => ∃ i N, m = 64 - i ∧ i ≤ 64 ∧ S.nx ≤ N ∧ N ≤ S.nx + 2 * i ∧ S' = { h := S.h, nx := N } ∧ fr = ⟨(((Tr.nil.set 1 (.int .i64 n)).set 5 (.int .i64 (IntKind.i64.wrap (tot n es i : Nat)))).set 13 (.agg l)).set 14 (.int .i64 (i : Int)), 31, [], none⟩) ?_ 64 _ _ ⟨0, S.nx, rfl, by omega, Nat.le_refl _, by omega, rfl, rfl⟩
  rintro m fr S1 ⟨i, N, rfl, hi, hN, hN2, rfl, rfl⟩
  refine wp_sound hb _ ?_
  simp only [wp]
  refine walk (fun Q => by simp [go_sem, binV]; rfl) (seqK_normal ?_)
  refine onBool_of (b := decide (i < 64)) (by simp [go_sem]; omega) (fun hlt => ?_) (fun hge => ?_)
  · have hlt : i < 64 := by simpa using hlt
    refine seqK_normal ?_
    obtain ⟨b, s, hr, hs⟩ := hrow i hlt
    refine walk (fun Q => by simp [go_sem, index52 l i hlt, hr, hs]; rfl) (seqK_normal ?_)
    have hroom : ∀ id o, S.h.get id = some o → id ≠ N ∧ id ≠ N + 1 := fun id o q => by have := hfresh id o q; omega
    have behind : ∀ (Q : ExQ) {c : Code} {fr S1}, CodeT Tryd.prog { fn := 58, round := none } c fr S1 (fun x fr S' => ∃ fr' S'', FrIn fr' fr ∧ Within S'' S' ∧ x = .exit 2 ∧
        fr' = ⟨(((Tr.nil.set 1 (.int .i64 n)).set 5 (.int .i64 (IntKind.i64.wrap (tot n es (i + 1) : Nat)))).set 13 (.agg l)).set 14 (.int .i64 (i : Int)), 31, [], none⟩ ∧ S'' = { h := S.h, nx := N + 2 }) →
        Q (.exit 2) ⟨(((Tr.nil.set 1 (.int .i64 n)).set 5 (.int .i64 (IntKind.i64.wrap (tot n es (i + 1) : Nat)))).set 13 (.agg l)).set 14 (.int .i64 (i : Int)), 31, [], none⟩ { h := S.h, nx := N + 2 } →
        CodeT Tryd.prog { fn := 58, round := none } c fr S1 Q := by
      intro Q c fr S1 h hq
      refine CodeT.post (fun x fr' S'' => x = .exit 2 ∧ fr' = ⟨(((Tr.nil.set 1 (.int .i64 n)).set 5 (.int .i64 (IntKind.i64.wrap (tot n es (i + 1) : Nat)))).set 13 (.agg l)).set 14 (.int .i64 (i : Int)), 31, [], none⟩ ∧ S'' = { h := S.h, nx := N + 2 }) h ?_
      rintro x fr S2 ⟨rfl, rfl, rfl⟩
      exact hq
    cases hmi : maps i with
    | none =>
      have htot : tot n es (i + 1) = tot n es i := by simp [tot, hnone i hlt hmi, cntE]
      refine walk (fun Q => by simp [go_sem, hmi, rangeV, mapOfV, und49]; rfl) (seqK_normal ?_)
      refine behind _ ?_ ?_
      · refine CodeT.loop (wp_sound hb _ ?_)
        simp only [wp]
        refine walk_next (by simp [go_sem, nextV]; rfl) ?_
        intro v S1 hm
        obtain ⟨rfl, rfl⟩ : v = _ ∧ S1 = _ := by simpa using hm
        refine ⟨_, by simp [go_sem]; rfl, ?_⟩
        refine walk (fun Q => by simp [go_sem]; rfl) (seqK_normal ?_)
        refine onBool_false (by simp [go_sem]) (seqK_exit ⟨_, _, ?_, ?_, rfl, rfl, rfl⟩)
        · refine frIn_of fun j v => ?_
          simp only [tr_get_set, tr_get_nil]
          intro h
          repeat' split at h
          all_goals (first | (cases h; done) | (simp only [Option.some.injEq] at h; subst h; subst_vars; first | (simp; done) | (simp [htot]; done)))
        · refine within_of (fun id o q => ?_) (Nat.le_refl _)
          obtain ⟨h1, h2⟩ := hroom id o q
          simp [go_sem, h1, h2, q]
      · refine blockK_exit (blockK_normal (seqK_normal ?_))
        refine walk (fun Q => by simp [go_sem, binV]; rfl) ?_
        refine ⟨64 - (i + 1), _, _, by omega, ?_, Within.refl _, i + 1, N + 2, rfl, by omega, by omega, by omega, rfl, rfl⟩
        refine frIn_of fun j v => ?_
        simp only [tr_get_set, tr_get_nil]
        intro h
        repeat' split at h
        all_goals (first | (cases h; done) | (simp only [Option.some.injEq] at h; subst h; subst_vars; simp; done) | (simp only [Option.some.injEq] at h; subst h; subst_vars; simp; exact wrap_in (by omega) (by omega)))
    | some r =>
      obtain ⟨clk, hr1, hok⟩ := hsome i hlt r hmi
      have hrlt : r < S.nx := hfresh r _ hr1
      have hrN : r ≠ N := by omega
      have hrN1 : r ≠ N + 1 := by omega
      refine walk (fun Q => by simp [go_sem, hmi, rangeV, mapOfV, und49, hr1, hrN, hrN1]; rfl) (seqK_normal ?_)
      refine behind _ ?_ ?_
      · refine CodeT.forget (fr' := ⟨((((Tr.nil.set 1 (.int .i64 n)).set 5 (.int .i64 (IntKind.i64.wrap (tot n es i : Nat)))).set 13 (.agg l)).set 14 (.int .i64 (i : Int))).set 19 (.ptr (some (N + 1, 0))), 31, [], none⟩)
          (S' := { h := S.h.set (N + 1) (.mapIter (some r) clk [] clk), nx := N + 2 }) (frIn_of fun j v => ?_) ?_ ?_
        · simp only [tr_get_set, tr_get_nil]
          intro h
          repeat' split at h
          all_goals (first | (cases h; done) | (simp only [Option.some.injEq] at h; subst h; subst_vars; simp))
        · refine within_of (fun id o q => ?_) (Nat.le_refl _)
          simp only [tr_get_set] at q ⊢
          split at q
          · rename_i h; simp [h, q]
          · rename_i h
            obtain ⟨h1, h2⟩ := hroom id o q
            simp [h1, h2, q]
        refine CodeT.loop_inv (I := fun m fr S' => ∃ seen k, m = (leftV seen (es i)).length ∧ tot n es i + cntE n (es i) = k + cntE n (leftV seen (es i)) ∧
          fr = ⟨((((Tr.nil.set 1 (.int .i64 n)).set 5 (.int .i64 (IntKind.i64.wrap (k : Nat)))).set 13 (.agg l)).set 14 (.int .i64 (i : Int))).set 19 (.ptr (some (N + 1, 0))), 31, [], none⟩ ∧
          S' = { h := S.h.set (N + 1) (.mapIter (some r) clk seen clk), nx := N + 2 }) ?_ _ _ _ ⟨[], tot n es i, rfl, by rw [leftV_nil], rfl, rfl⟩
        rintro m fr S1 ⟨seen, k, rfl, hk, rfl, rfl⟩
        refine wp_sound hb _ ?_
        simp only [wp]
        have hne : (!seen.isEmpty && !(es i).isEmpty && (es i).all fun e => decide (clk ≤ e.2.2)) = false := by
          rw [Bool.eq_false_iff]
          simp only [ne_eq, Bool.and_eq_true, not_and]
          intro h hall
          obtain ⟨x, hx⟩ : ∃ x, x ∈ es i := by
            cases hh : es i with
            | nil => simp [hh] at h
            | cons x _ => exact ⟨x, by simp⟩
          have h1 := List.all_eq_true.1 hall x hx
          have h2 := hok.born x hx
          simp at h1
          omega
        cases hleft : leftV seen (es i) with
        | nil =>
          have htot : tot n es (i + 1) = k := by rw [hleft] at hk; simpa [tot, cntE] using hk
          refine walk_next (L := [(.tuple [.bool false], { h := (S.h.set (N + 1) (.mapIter (some r) clk seen clk)).del (N + 1), nx := N + 2 })]) (by
            rw [ev_tmp]
            have := nextV_map_end (S := { h := S.h.set (N + 1) (.mapIter (some r) clk seen clk), nx := N + 2 }) (r := N + 1) (m := r) (since := clk) (last := clk) (clock := clk) (seen := seen) (es := es i) (by simp [tr_get_set]) (by simp [tr_get_set, hrN1, hr1]) hne hleft
            simpa [tr_get_set] using this) ?_
          intro v S1 hm
          obtain ⟨rfl, rfl⟩ : v = _ ∧ S1 = _ := by simpa using hm
          refine ⟨_, by simp [go_sem]; rfl, ?_⟩
          refine walk (fun Q => by simp [go_sem]; rfl) (seqK_normal ?_)
          refine onBool_false (by simp [go_sem]) (seqK_exit ⟨_, _, ?_, ?_, rfl, rfl, rfl⟩)
          · refine frIn_of fun j v => ?_
            simp only [tr_get_set, tr_get_nil]
            intro h
            repeat' split at h
            all_goals (first | (cases h; done) | (simp only [Option.some.injEq] at h; subst h; subst_vars; first | (simp; done) | (simp [htot]; done)))
          · refine within_of (fun id o q => ?_) (Nat.le_refl _)
            obtain ⟨h1, h2⟩ := hroom id o q
            simp [Tr.get_del, tr_get_set, h2, q]
        | cons e0 left =>
          have hborn : ∀ e ∈ e0 :: left, e.2.2 < clk := by
            rw [← hleft, leftV_eq]
            exact fun e he => hok.born e (List.mem_filter.1 he).1
          have hall : ((e0 :: left).all fun e => decide (e.2.2 < clk)) = true := List.all_eq_true.2 fun e he => by simpa using hborn e he
          refine walk_next (L := (e0 :: left).map fun e => (.tuple [.bool true, e.1, e.2.1], { h := (S.h.set (N + 1) (.mapIter (some r) clk seen clk)).set (N + 1) (.mapIter (some r) clk (seen ++ [e.2.2]) clk), nx := N + 2 }))
            (by
              rw [ev_tmp]
              have := nextV_map (S := { h := S.h.set (N + 1) (.mapIter (some r) clk seen clk), nx := N + 2 }) (r := N + 1) (m := r) (since := clk) (last := clk) (clock := clk) (seen := seen) (es := es i) (by simp [tr_get_set]) (by simp [tr_get_set, hrN1, hr1]) hne (by rw [hleft]; simp) (by rw [hleft]; exact hall)
              rw [hleft] at this
              simpa [tr_get_set] using this) ?_
          intro v S1 hm
          obtain ⟨e, he, hv⟩ := List.mem_map.1 hm
          simp only [Prod.mk.injEq] at hv
          obtain ⟨rfl, rfl⟩ := hv
          rw [← hleft] at he
          have hmem : e ∈ es i := by rw [leftV_eq] at he; exact (List.mem_filter.1 he).1
          obtain ⟨m, hval⟩ := hok.val e hmem
          obtain ⟨hc1, hc2⟩ := left_less hok.nodup seen he n
          refine ⟨_, by simp [go_sem]; rfl, ?_⟩
          refine walk (fun Q => by simp [go_sem]; rfl) (seqK_normal ?_)
          refine onBool_true (by simp [go_sem]) (seqK_normal ?_)
          refine walk (fun Q => by simp [go_sem, entryV, hr1, hrN1, entryOf_mem hok.nodup hmem, hval]; rfl) (seqK_normal ?_)
          refine walk (fun Q => by simp [go_sem, binV]; rfl) (seqK_normal ?_)
          refine onBool_of (b := m == n) (by simp [go_sem]) (fun hmn => ?_) (fun hmn => ?_)
          · refine walk (fun Q => by simp [go_sem, binV]; rfl) (blockK_normal ?_)
            refine ⟨_, _, _, ?_, ?_, ?_, seen ++ [e.2.2], k + 1, rfl, ?_, rfl, rfl⟩
            · rw [← hleft]; omega
            · refine frIn_of fun j v => ?_
              simp only [tr_get_set, tr_get_nil]
              intro h
              repeat' split at h
              all_goals (first | (cases h; done) | (simp only [Option.some.injEq] at h; subst h; subst_vars; simp; done) | (simp only [Option.some.injEq] at h; subst h; subst_vars; simp; rw [wrap_wrap]; done))
            · refine within_of (fun id o q => ?_) (Nat.le_refl _)
              simp only [tr_get_set] at q ⊢
              split at q <;> rename_i h <;> simp [h, q]
            · rw [hval] at hc1
              simp only [leadsTo, hmn, if_true] at hc1
              omega
          · refine blockK_normal ?_
            refine ⟨_, _, _, ?_, ?_, ?_, seen ++ [e.2.2], k, rfl, ?_, rfl, rfl⟩
            · rw [← hleft]; omega
            · refine frIn_of fun j v => ?_
              simp only [tr_get_set, tr_get_nil]
              intro h
              repeat' split at h
              all_goals (first | (cases h; done) | (simp only [Option.some.injEq] at h; subst h; subst_vars; simp; done))
            · refine within_of (fun id o q => ?_) (Nat.le_refl _)
              simp only [tr_get_set] at q ⊢
              split at q <;> rename_i h <;> simp [h, q]
            · rw [hval] at hc1
              simp only [leadsTo, hmn, Bool.false_eq_true, if_false] at hc1
              omega
      · refine blockK_exit (blockK_normal (seqK_normal ?_))
        refine walk (fun Q => by simp [go_sem, binV]; rfl) ?_
        refine ⟨64 - (i + 1), _, _, by omega, ?_, Within.refl _, i + 1, N + 2, rfl, by omega, by omega, by omega, rfl, rfl⟩
        refine frIn_of fun j v => ?_
        simp only [tr_get_set, tr_get_nil]
        intro h
        repeat' split at h
        all_goals (first | (cases h; done) | (simp only [Option.some.injEq] at h; subst h; subst_vars; simp; done) | (simp only [Option.some.injEq] at h; subst h; subst_vars; simp; exact wrap_in (by omega) (by omega)))
  · have hge : i = 64 := by simp at hge; omega
    subst hge
    refine seqK_exit (blockK_exit (seqK_normal ?_))
    refine walk (fun Q => by simp [go_sem]; rfl) (seqK_normal ?_)
    refine UnwT.done Tryd.func58 rfl (vs := [.int .i64 (IntKind.i64.wrap (tot n es 64 : Nat))]) ?_ ⟨rfl, rfl, N, hN, by omega, rfl⟩
    show resultsV _ _ _ [ResultVar.tmp 4] = _
    simp [resultsV, tr_get_set]

end Go.Proofs.YtgdpedfahfmjeaaDoor

/-
  What the small functions of ramfs come to (1): no, there, dir; how a contract is laid.
-/
namespace Go.Vm
variable {P : Program}

/-- a frame without deferred calls, at its end -/
def endQ (P : Program) (fn : Func) (R : En → St → Prop) : ExQ := fun x fr S => fr.ds = [] ∧ match x with
  | .normal | .ret => ∃ vs, resultsV P fr.t S fn.results.toList = some vs ∧ R (.returned (oneOf vs)) S
  | .panic ch => R (.panicked ch) S
  | .exit _ => False

theorem CallT.plain {f : FuncId} {fn : Func} {c : Code} {args : List VV} {rc : Option (List VPan)} {S : St} {R : En → St → Prop} (hf : P.funcs[f]? = some fn) (hb : fn.body = some c)
    (h : CodeT P { fn := f, round := none } c (frameV fn args rc) S (endQ P fn R)) : CallT P f args rc S fun e _ S => R e S := by
  refine CallT.func hf hb (h.mono ?_)
  rintro x fr S1 ⟨hd, hq⟩
  cases x with
  | normal => obtain ⟨vs, h1, h2⟩ := hq; exact .done hf hd h1 h2
  | ret => obtain ⟨vs, h1, h2⟩ := hq; exact .done hf hd h1 h2
  | panic ch => exact .panics hd hq
  | exit i => exact hq

/-- a call's one end; what more there is in memory is nobody's -/
def Does (P : Program) (f : FuncId) (args : List VV) (S : St) (e : En) (S' : St) : Prop := CallT P f args none S fun e1 _ S1 => e1 = e ∧ Within S' S1

theorem Does.fun {f : FuncId} {fn : Func} {args : List VV} {S S' : St} {e : En} (hn : NoCount P) (hf : P.funcs[f]? = some fn) (hb : fn.body.isSome = true) (h : Does P f args S e S') : FunT P f args S fun e1 S1 => e1 = e ∧ S1 = S' :=
  FunT.of_call hn hf hb (h.within fun _ _ _ ⟨h1, h2⟩ => ⟨S', h2, h1, rfl⟩)

theorem Does.of {f : FuncId} {fn : Func} {c : Code} {args : List VV} {S S' : St} {e : En} {ov : Ov} {n : Nat} (hb : Base P ov) (hf : P.funcs[f]? = some fn) (hc : fn.body = some c) (hn : Nat.max fn.ntmps args.length = n)
    (h : Fresh S → wp P ov { fn := f, round := none } c ⟨Tr.setAll .nil 0 args, n, [], none⟩ S (endQ P fn fun e1 S1 => e1 = e ∧ Within S' S1)) : Does P f args S e S' := by
  refine CallT.of_fresh fun hfr => CallT.plain (R := fun e1 S1 => e1 = e ∧ Within S' S1) hf hc (wp_sound hb c ?_)
  rw [frameV_eq, hn]
  exact h hfr

/-- the same memory, but for numbers that were given out -/
theorem Within.up {S : St} {n : Nat} (h : S.nx ≤ n) : Within { h := S.h, nx := n } S := ⟨fun _ _ q => q, h⟩

end Go.Vm

namespace Go.Proofs.YtgdpedfahfmjeaaDoor
open Go Go.Vm

def refusedV (e : Int) : List VPan := [{ v := .iface 78 (.agg [.int .i64 e]), recovered := false }]

@[go_sem] theorem build78 (e : Int) : buildV Tryd.prog 78 [(0, .int .i64 e)] = some (.agg [.int .i64 e]) := by kernel_rfl
@[go_sem] theorem iface78 (v : VV) : makeInterfaceV Tryd.prog 78 v = some (.iface 78 v) := by kernel_rfl
@[go_sem] theorem panicV_iface (t : TypeId) (v : VV) : panicV (.iface t v) = some [{ v := .iface t v, recovered := false }] := rfl

def gNo : List VV → St → Option (En × St)
  | [.bool b, .int .i64 e], S => match b with
    | true => some (.panicked (refusedV e), S)
    | false => some (.returned (.tuple []), S)
  | _, _ => none

theorem no_T {ov : Ov} (hb : Base Tryd.prog ov) {args : List VV} {S S' : St} {e : En} (h : gNo args S = some (e, S')) : Does Tryd.prog 25 args S e S' := by
  unfold gNo at h
  split at h
  · rename_i b n
    refine Does.of hb Tryd.func25 rfl (n := 8) rfl fun _ => ?_
    simp only [tr_setAll_cons, tr_setAll_nil, wp]
    refine walk (fun Q => by simp [go_sem]; rfl) (seqK_normal ?_)
    cases b with
    | true =>
      simp only [Option.some.injEq, Prod.mk.injEq] at h
      obtain ⟨rfl, rfl⟩ := h
      refine onBool_true (by simp [go_sem]) ?_
      simp only [go_sem]
      simp [go_sem]
      exact ⟨rfl, rfl, .refl _⟩
    | false =>
      simp only [Option.some.injEq, Prod.mk.injEq] at h
      obtain ⟨rfl, rfl⟩ := h
      refine onBool_false (by simp [go_sem]) ⟨rfl, [], rfl, rfl, .refl _⟩
  · cases h

@[go_sem] theorem neq25 (S : St) (x y : Operand) (p : Nat × Nat) : binV Tryd.prog S .neq 25 x y (.ptr (some p)) (.ptr none) = some (.bool true) := by kernel_rfl
@[go_sem] theorem neq25n (S : St) (x y : Operand) : binV Tryd.prog S .neq 25 x y (.ptr none) (.ptr none) = some (.bool false) := by kernel_rfl
@[go_sem] theorem eq49 (S : St) (x y : Operand) (m : Option Nat) : binV Tryd.prog S .eql 49 x y (.map m) (.map none) = some (.bool m.isNone) := by cases m <;> kernel_rfl
@[go_sem] theorem neq49 (S : St) (x y : Operand) (m : Option Nat) : binV Tryd.prog S .neq 49 x y (.map m) (.map none) = some (.bool m.isSome) := by cases m <;> kernel_rfl
@[go_sem] theorem fa51_0 (a : Nat × Nat) : fieldAddrV Tryd.prog 51 (.ptr (some a)) 0 = some (.ptr (some (a.1, a.2 + 0))) := by kernel_rfl
@[go_sem] theorem fa51_2 (a : Nat × Nat) : fieldAddrV Tryd.prog 51 (.ptr (some a)) 2 = some (.ptr (some (a.1, a.2 + 2))) := by kernel_rfl
@[go_sem] theorem fa57_1 (a : Nat × Nat) : fieldAddrV Tryd.prog 57 (.ptr (some a)) 1 = some (.ptr (some (a.1, a.2 + 192))) := by kernel_rfl
@[go_sem] theorem fa54_0 (a : Nat × Nat) : fieldAddrV Tryd.prog 54 (.ptr (some a)) 0 = some (.ptr (some (a.1, a.2 + 0))) := by kernel_rfl
@[go_sem] theorem fa54_1 (a : Nat × Nat) : fieldAddrV Tryd.prog 54 (.ptr (some a)) 1 = some (.ptr (some (a.1, a.2 + 1))) := by kernel_rfl
@[go_sem] theorem fa54_2 (a : Nat × Nat) : fieldAddrV Tryd.prog 54 (.ptr (some a)) 2 = some (.ptr (some (a.1, a.2 + 2))) := by kernel_rfl
@[go_sem] theorem fa54_3 (a : Nat × Nat) : fieldAddrV Tryd.prog 54 (.ptr (some a)) 3 = some (.ptr (some (a.1, a.2 + 3))) := by kernel_rfl
@[go_sem] theorem ia52 (a : Nat × Nat) (i : Int) : indexAddrV Tryd.prog 52 (.ptr (some a)) (.int .i64 i) = if 0 ≤ i ∧ i < 64 then some (.ptr (some (a.1, a.2 + i.toNat * 3))) else none := by
  have hu : Tryd.prog.underlying 52 = some (.array 64 51) := by kernel_rfl
  obtain ⟨x, y⟩ := a
  simp only [indexAddrV, hu, size51]
  by_cases h0 : 0 ≤ i
  · by_cases h1 : i < 64
    · rw [if_pos h0, if_pos ⟨h0, h1⟩, show Nat.blt i.toNat 64 = true from by rw [Nat.blt_eq]; omega]
    · rw [if_pos h0, if_neg (by omega), show Nat.blt i.toNat 64 = false from by rw [Bool.eq_false_iff, ne_eq, Nat.blt_eq]; omega]
  · rw [if_neg h0, if_neg (by omega)]
@[go_sem] theorem ia55 (a : Nat × Nat) (i : Int) : indexAddrV Tryd.prog 55 (.ptr (some a)) (.int .i64 i) = if 0 ≤ i ∧ i < 16 then some (.ptr (some (a.1, a.2 + i.toNat * 4))) else none := by
  have hu : Tryd.prog.underlying 55 = some (.array 16 54) := by kernel_rfl
  have hz : sizeV Tryd.prog 54 = some 4 := by kernel_rfl
  obtain ⟨x, y⟩ := a
  simp only [indexAddrV, hu, hz]
  by_cases h0 : 0 ≤ i
  · by_cases h1 : i < 16
    · rw [if_pos h0, if_pos ⟨h0, h1⟩, show Nat.blt i.toNat 16 = true from by rw [Nat.blt_eq]; omega]
    · rw [if_pos h0, if_neg (by omega), show Nat.blt i.toNat 16 = false from by rw [Bool.eq_false_iff, ne_eq, Nat.blt_eq]; omega]
  · rw [if_neg h0, if_neg (by omega)]

/-- a cell of an object -/
def cellAt (S : St) (a k : Nat) : Option VV := match S.h.get a with
  | some (.cells c _ _ _ _) => c.get k
  | _ => none

def gThere : List VV → St → Option (En × St)
  | [.ptr none], S => some (.returned (.bool false), S)
  | [.ptr (some (a, 0))], S => match cellAt S a 0 with
    | some (.bool b) => some (.returned (.bool b), S)
    | _ => none
  | _, _ => none

theorem cellAt_some {S : St} {a k : Nat} {v : VV} (h : cellAt S a k = some v) : ∃ c n t ro mk, S.h.get a = some (.cells c n t ro mk) ∧ c.get k = some v := by
  unfold cellAt at h
  split at h
  · rename_i c n t ro mk hq; exact ⟨c, n, t, ro, mk, hq, h⟩
  · cases h

set_option maxRecDepth 10000 in
theorem there_T {ov : Ov} (hb : Base Tryd.prog ov) {args : List VV} {S S' : St} {e : En} (h : gThere args S = some (e, S')) : Does Tryd.prog 40 args S e S' := by
  unfold gThere at h
  split at h
  · simp only [Option.some.injEq, Prod.mk.injEq] at h
    obtain ⟨rfl, rfl⟩ := h
    refine Does.of hb Tryd.func40 rfl (n := 13) rfl fun _ => ?_
    simp only [tr_setAll_cons, tr_setAll_nil, wp]
    refine walk (fun Q => by simp [go_sem]; rfl) (seqK_normal ?_)
    refine walk (fun Q => by simp [go_sem]; rfl) (seqK_normal ?_)
    exact ⟨rfl, [.bool false], by show resultsV _ _ _ [ResultVar.tmp 2] = _; simp [resultsV, go_sem], rfl, .refl _⟩
  · split at h
    · rename_i a b hc
      simp only [Option.some.injEq, Prod.mk.injEq] at h
      obtain ⟨rfl, rfl⟩ := h
      obtain ⟨c, n, t, ro, mk, h1, h2⟩ := cellAt_some hc
      refine Does.of hb Tryd.func40 rfl (n := 13) rfl fun _ => ?_
      simp only [tr_setAll_cons, tr_setAll_nil, wp]
      refine walk (fun Q => by simp [go_sem]; rfl) (seqK_normal ?_)
      refine walk (fun Q => by simp [go_sem, h1, h2]; rfl) (seqK_normal ?_)
      exact ⟨rfl, [.bool b], by show resultsV _ _ _ [ResultVar.tmp 2] = _; simp [resultsV, go_sem], rfl, .refl _⟩
    · cases h
  · cases h

def gDir : List VV → St → Option (En × St)
  | [.ptr (some (a, 0)), .int .i64 i], S => match decide (0 ≤ i ∧ i < 64), cellAt S a (i.toNat * 3 + 1) with
    | true, some (.map m) => some (.returned (.bool m.isSome), S)
    | _, _ => none
  | _, _ => none

set_option maxRecDepth 10000 in
theorem dir_T {ov : Ov} (hb : Base Tryd.prog ov) {args : List VV} {S S' : St} {e : En} (h : gDir args S = some (e, S')) : Does Tryd.prog 29 args S e S' := by
  unfold gDir at h
  split at h
  · split at h
    · rename_i a i _ _ m hd hc
      simp only [Option.some.injEq, Prod.mk.injEq] at h
      obtain ⟨rfl, rfl⟩ := h
      obtain ⟨c, n, t, ro, mk, h1, h2⟩ := cellAt_some hc
      have hi : 0 ≤ i ∧ i < 64 := by simpa using hd
      refine Does.of hb Tryd.func29 rfl (n := 13) rfl fun _ => ?_
      simp only [tr_setAll_cons, tr_setAll_nil, wp]
      refine walk (fun Q => by simp [go_sem]; rfl) (seqK_normal ?_)
      refine walk (fun Q => by simp [go_sem, hi, h1, h2]; rfl) (seqK_normal ?_)
      exact ⟨rfl, [.bool m.isSome], by show resultsV _ _ _ [ResultVar.tmp 4] = _; simp [resultsV, go_sem], rfl, .refl _⟩
    · cases h
  · cases h

end Go.Proofs.YtgdpedfahfmjeaaDoor

/-
  What the small functions of ramfs come to (2): free, the two searches, Nodes, Bytes.
-/
namespace Go.Proofs.YtgdpedfahfmjeaaDoor
open Go Go.Vm

@[go_sem] theorem unV_not (b : Bool) : unV .not (.bool b) = some (.bool (!b)) := rfl
@[go_sem] theorem binV_int (S : St) (op : BinOp) (t : TypeId) (x y : Operand) (k : IntKind) (a b : Int) (h1 : op ≠ .shl) (h2 : op ≠ .shr) : binV Tryd.prog S op t x y (.int k a) (.int k b) = intOpV op k a b := by
  cases op <;> first | exact absurd rfl h1 | exact absurd rfl h2 | simp [binV]
@[go_sem] theorem slice52 (a : Nat × Nat) : sliceV Tryd.prog 52 (.ptr (some a)) none none none = some (.slice (some a) 64 (.just 64)) := by kernel_rfl
@[go_sem] theorem slice55 (a : Nat × Nat) : sliceV Tryd.prog 55 (.ptr (some a)) none none none = some (.slice (some a) 16 (.just 16)) := by kernel_rfl
theorem ia_slice {t e : TypeId} {z : Nat} (hu : Tryd.prog.underlying t = some (.slice e)) (hz : sizeV Tryd.prog e = some z) (a : Nat × Nat) (len : Nat) (cap : Cap) (i : Int) : indexAddrV Tryd.prog t (.slice (some a) len cap) (.int .i64 i) = if 0 ≤ i ∧ i < len then some (.ptr (some (a.1, a.2 + i.toNat * z))) else none := by
  obtain ⟨x, y⟩ := a
  simp only [indexAddrV, hu, hz]
  by_cases h0 : 0 ≤ i
  · by_cases h1 : i < len
    · rw [if_pos h0, if_pos ⟨h0, h1⟩, show Nat.blt i.toNat len = true from by rw [Nat.blt_eq]; omega]
    · rw [if_pos h0, if_neg (by omega), show Nat.blt i.toNat len = false from by rw [Bool.eq_false_iff, ne_eq, Nat.blt_eq]; omega]
  · rw [if_neg h0, if_neg (by omega)]
@[go_sem] theorem ia87 (a : Nat × Nat) (len : Nat) (cap : Cap) (i : Int) : indexAddrV Tryd.prog 87 (.slice (some a) len cap) (.int .i64 i) = if 0 ≤ i ∧ i < len then some (.ptr (some (a.1, a.2 + i.toNat * 3))) else none := ia_slice (e := 51) (by kernel_rfl) (by kernel_rfl) a len cap i
@[go_sem] theorem ia66 (a : Nat × Nat) (len : Nat) (cap : Cap) (i : Int) : indexAddrV Tryd.prog 66 (.slice (some a) len cap) (.int .i64 i) = if 0 ≤ i ∧ i < len then some (.ptr (some (a.1, a.2 + i.toNat * 4))) else none := ia_slice (e := 54) (by kernel_rfl) (by kernel_rfl) a len cap i
@[go_sem] theorem len87 (S : St) (a : Option (Nat × Nat)) (n : Nat) (c : Cap) : lenV Tryd.prog S [87] [.slice a n c] = some (.int .i64 n) := by kernel_rfl
@[go_sem] theorem len66 (S : St) (a : Option (Nat × Nat)) (n : Nat) (c : Cap) : lenV Tryd.prog S [66] [.slice a n c] = some (.int .i64 n) := by kernel_rfl
@[go_sem] theorem len23 (S : St) (a : Option (Nat × Nat)) (n : Nat) (c : Cap) : lenV Tryd.prog S [23] [.slice a n c] = some (.int .i64 n) := by kernel_rfl
@[go_sem] theorem agg54 : isAggV Tryd.prog 54 = some true := by kernel_rfl
@[go_sem] theorem size54 : sizeV Tryd.prog 54 = some 4 := by kernel_rfl
@[go_sem] theorem agg23 : isAggV Tryd.prog 23 = some false := by kernel_rfl
@[go_sem] theorem size23 : sizeV Tryd.prog 23 = some 1 := by kernel_rfl

/-- given numbers -/
def _root_.Go.Vm.St.up (S : St) (n : Nat) : St := { h := S.h, nx := S.nx + n }

/- a node's is -/
def gFree1 : List VV → St → Option (En × St)
  | [.agg [.bool b, m, s]], S => match m.one && s.one with
    | true => some (.returned (.bool (!b)), S.up 1)
    | false => none
  | _, _ => none

set_option maxRecDepth 10000 in
theorem free1_T {ov : Ov} (hb : Base Tryd.prog ov) {args : List VV} {S S' : St} {e : En} (h : gFree1 args S = some (e, S')) : Does Tryd.prog 55 args S e S' := by
  unfold gFree1 at h
  split at h
  · rename_i b m s
    split at h
    · rename_i hone
      simp only [Bool.and_eq_true] at hone
      simp only [Option.some.injEq, Prod.mk.injEq] at h
      obtain ⟨rfl, rfl⟩ := h
      refine Does.of hb Tryd.func55 rfl (n := 6) rfl fun hfr => ?_
      simp only [tr_setAll_cons, tr_setAll_nil, wp]
      refine walk (fun Q => by simp [go_sem, hone, Tr.ofList]; rfl) (seqK_normal ?_)
      refine walk (fun Q => by simp [go_sem]; rfl) (seqK_normal ?_)
      refine ⟨rfl, [.bool (!b)], by show resultsV _ _ _ [ResultVar.tmp 2] = _; simp [resultsV, go_sem], rfl, ?_⟩
      refine within_of (fun id o q => ?_) (Nat.le_refl _)
      have := hfr id o q
      simp [go_sem, q]
      omega
    · cases h
  · cases h

/- a descriptor's tests -/
def gOpen12 : List VV → St → Option (En × St)
  | [.agg [.bool o, .int .i64 _, .int .i64 _, .int .i64 _]], S => some (.returned (.bool (!o)), S.up 1)
  | _, _ => none

set_option maxRecDepth 10000 in
theorem open12_T {ov : Ov} (hb : Base Tryd.prog ov) {args : List VV} {S S' : St} {e : En} (h : gOpen12 args S = some (e, S')) : Does Tryd.prog 32 args S e S' := by
  unfold gOpen12 at h
  split at h
  · rename_i o n1 n2 n3
    simp only [Option.some.injEq, Prod.mk.injEq] at h
    obtain ⟨rfl, rfl⟩ := h
    refine Does.of hb Tryd.func32 rfl (n := 6) rfl fun hfr => ?_
    simp only [tr_setAll_cons, tr_setAll_nil, wp]
    refine walk (fun Q => by simp [go_sem, Tr.ofList]; rfl) (seqK_normal ?_)
    refine walk (fun Q => by simp [go_sem]; rfl) (seqK_normal ?_)
    refine ⟨rfl, [.bool (!o)], by show resultsV _ _ _ [ResultVar.tmp 2] = _; simp [resultsV, go_sem], rfl, ?_⟩
    refine within_of (fun id o q => ?_) (Nat.le_refl _)
    have := hfr id o q
    simp [go_sem, q]
    omega
  · cases h

def gGone1 : List VV → St → Option (En × St)
  | [.agg [.bool o, .int .i64 nd, .int .i64 _, .int .i64 _], .ptr (some (b, 0))], S => match cellAt S b 0 with
    | some (.int .i64 n) => some (.returned (.bool (bif o then nd == n else false)), S.up 1)
    | _ => none
  | _, _ => none

set_option maxRecDepth 10000 in
theorem gone1_T {ov : Ov} (hb : Base Tryd.prog ov) {args : List VV} {S S' : St} {e : En} (h : gGone1 args S = some (e, S')) : Does Tryd.prog 57 args S e S' := by
  unfold gGone1 at h
  split at h
  · rename_i o nd n2 n3 b
    split at h
    · rename_i n hc
      simp only [Option.some.injEq, Prod.mk.injEq] at h
      obtain ⟨rfl, rfl⟩ := h
      obtain ⟨c, k, t, ro, mk, h1, h2⟩ := cellAt_some hc
      refine Does.of hb Tryd.func57 rfl (n := 12) rfl fun hfr => ?_
      have hbn : b ≠ S.nx := fun e => by have := hfr b _ h1; omega
      simp only [tr_setAll_cons, tr_setAll_nil, wp]
      refine walk (fun Q => by simp [go_sem, Tr.ofList]; rfl) (seqK_normal ?_)
      have fin : Within (S.up 1) { h := S.h.set S.nx (.cells (Tr.ofList [.bool o, .int .i64 nd, .int .i64 n2, .int .i64 n3]) 4 54 false false), nx := S.nx + 1 } :=
        within_of (fun id o q => by have := hfr id o q; simp [go_sem, q]; omega) (Nat.le_refl _)
      cases o with
      | true =>
        refine walk (fun Q => by simp [go_sem, h1, h2, hbn]; rfl) (seqK_normal ?_)
        exact ⟨rfl, [.bool (nd == n)], by show resultsV _ _ _ [ResultVar.tmp 3] = _; simp [resultsV, go_sem], rfl, fin⟩
      | false =>
        refine walk (fun Q => by simp [go_sem, h1, h2, hbn]; rfl) (seqK_normal ?_)
        exact ⟨rfl, [.bool false], by show resultsV _ _ _ [ResultVar.tmp 3] = _; simp [resultsV, go_sem], rfl, fin⟩
    · cases h
  · cases h

end Go.Proofs.YtgdpedfahfmjeaaDoor

/-
  What the small functions of ramfs come to (3): the two searches, free, whether a descriptor leads to a node.
-/
namespace Go.Vm
variable {P : Program}

/-- a list of contracts in functions' places -/
theorem ovSound_of {ov : Ov} (h : ∀ f g, ov f = some g → ∀ args S e S', g args S = some (e, S') → FunT P f args S fun e1 S1 => e1 = e ∧ S1 = S') : OvSound P ov :=
  fun f g args S e S' h1 h2 => h f g h1 args S e S' h2

end Go.Vm
namespace Go.Proofs.YtgdpedfahfmjeaaDoor
open Go Go.Vm

def ovA : Ov := fun f => match f with
  | 25 => some gNo
  | 40 => some gThere
  | 29 => some gDir
  | 55 => some gFree1
  | 32 => some gOpen12
  | 57 => some gGone1
  | 71 => some ibV
  | _ => none

@[go_sem] theorem ovA25 : ovA 25 = some gNo := rfl
@[go_sem] theorem ovA40 : ovA 40 = some gThere := rfl
@[go_sem] theorem ovA29 : ovA 29 = some gDir := rfl
@[go_sem] theorem ovA55 : ovA 55 = some gFree1 := rfl
@[go_sem] theorem ovA32 : ovA 32 = some gOpen12 := rfl
@[go_sem] theorem ovA57 : ovA 57 = some gGone1 := rfl

theorem mix : Tryd.prog.follows .mixedOrders = true := Checked.mixed Tryd.checked
theorem noCount : NoCount Tryd.prog := noCount_of (by kernel_rfl)

theorem base0 : Base Tryd.prog (fun _ => none) := ⟨mix, noCount, fun _ _ _ _ _ _ h => by cases h⟩

theorem ovA_sound : OvSound Tryd.prog ovA := by
  refine ovSound_of fun f g hf args S e S' hg => ?_
  unfold ovA at hf
  split at hf <;> (try cases hf)
  · exact (no_T base0 hg).fun noCount Tryd.func25 rfl
  · exact (there_T base0 hg).fun noCount Tryd.func40 rfl
  · exact (dir_T base0 hg).fun noCount Tryd.func29 rfl
  · exact (free1_T base0 hg).fun noCount Tryd.func55 rfl
  · exact (open12_T base0 hg).fun noCount Tryd.func32 rfl
  · exact (gone1_T base0 hg).fun noCount Tryd.func57 rfl
  · exact ibV_sound Tryd.func71 (by kernel_rfl) (by kernel_rfl) (by kernel_rfl) (by kernel_rfl) hg

theorem baseA : Base Tryd.prog ovA := ⟨mix, noCount, ovA_sound⟩

/-- a node, as it lies -/
def nodeAt (S : St) (a k : Nat) : Option (Bool × Option Nat × VV) := match cellAt S a (k * 3), cellAt S a (k * 3 + 1), cellAt S a (k * 3 + 2) with
  | some (.bool b), some (.map m), some s => match s.one with
    | true => some (b, m, s)
    | false => none
  | _, _, _ => none

theorem nodeAt_some {S : St} {a k : Nat} {b : Bool} {m : Option Nat} {s : VV} (h : nodeAt S a k = some (b, m, s)) :
    ∃ c n t ro mk, S.h.get a = some (.cells c n t ro mk) ∧ c.get (k * 3) = some (.bool b) ∧ c.get (k * 3 + 1) = some (.map m) ∧ c.get (k * 3 + 2) = some s ∧ s.one = true := by
  unfold nodeAt at h
  split at h
  · rename_i b' m' s' h1 h2 h3
    split at h
    · rename_i hone
      simp only [Option.some.injEq, Prod.mk.injEq] at h
      obtain ⟨rfl, rfl, rfl⟩ := h
      obtain ⟨c, n, t, ro, mk, q1, q2⟩ := cellAt_some h1
      simp only [cellAt, q1] at h2 h3
      exact ⟨c, n, t, ro, mk, q1, q2, h2, h3, hone⟩
    · cases h
  · cases h

theorem row3 {c : Tr VV} {k : Nat} {x y z : VV} (h1 : c.get k = some x) (h2 : c.get (k + 1) = some y) (h3 : c.get (k + 2) = some z) : c.row k 3 = some [x, y, z] := by
  simp [Tr.row, h1, h2, h3]

/-- the first node that is none: of n from k on -/
def firstFree (S : St) (a : Nat) : Nat → Nat → Option (Option Nat)
  | 0, _ => some none
  | n + 1, k => match nodeAt S a k with
    | some (false, _, _) => some (some k)
    | some (true, _, _) => firstFree S a n (k + 1)
    | none => none

def foundV : Option Nat → VV
  | some k => .int .i64 (k : Int)
  | none => .int .i64 (-1)

set_option maxRecDepth 10000 in
theorem idxNode_T {S : St} {a : Nat} {r : Option Nat} (h : firstFree S a 64 0 = some r) : Does Tryd.prog 54 [.slice (some (a, 0)) 64 (.just 64), .func (.func 55) [] []] S (.returned (foundV r)) (S.up 64) := by
  refine Does.of baseA Tryd.func54 rfl (n := 19) rfl fun hfr => ?_
  simp only [tr_setAll_cons, tr_setAll_nil, wp]
  refine walk (fun Q => by simp [go_sem]; rfl) (seqK_normal ?_)
  refine walk (fun Q => by simp [go_sem]; rfl) (seqK_normal ?_)
  refine CodeT.forget (fr' := ⟨(((Tr.nil.set 0 (.slice (some (a, 0)) 64 (.just 64))).set 1 (.func (.func 55) [] [])).set 7 (.int .i64 64)).set 8 (.int .i64 ((0 : Nat) : Int)), 19, [], none⟩)
    (frIn_set (frIn_set (frIn_set (frIn_set frIn_nil (by simp [go_sem])) (by simp [go_sem])) (by simp [go_sem])) (by simp [go_sem])) (Within.refl _) ?_
  refine CodeT.loop_inv (I := fun m fr S' => ∃ k N, m = 64 - k ∧ k ≤ 64 ∧ S.nx ≤ N ∧ N ≤ S.nx + k ∧ firstFree S a (64 - k) k = some r ∧ S' = { h := S.h, nx := N } ∧
    fr = ⟨(((Tr.nil.set 0 (.slice (some (a, 0)) 64 (.just 64))).set 1 (.func (.func 55) [] [])).set 7 (.int .i64 64)).set 8 (.int .i64 (k : Int)), 19, [], none⟩) ?_ 64 _ _ ⟨0, S.nx, rfl, by omega, Nat.le_refl _, Nat.le_refl _, h, rfl, rfl⟩
  rintro m fr S1 ⟨k, N, rfl, hk, hN, hN2, hff, rfl, rfl⟩
  refine wp_sound baseA _ ?_
  simp only [wp]
  refine walk (fun Q => by simp [go_sem]; rfl) (seqK_normal ?_)
  refine onBool_of (b := decide (k < 64)) (by simp [go_sem]; omega) (fun hlt => ?_) (fun hge => ?_)
  · have hlt : k < 64 := by simpa using hlt
    rw [show 64 - k = (64 - (k + 1)) + 1 by omega, firstFree] at hff
    refine seqK_normal ?_
    cases hn : nodeAt S a k with
    | none => simp [hn] at hff
    | some q =>
      obtain ⟨b, m, s⟩ := q
      obtain ⟨c, n, t, ro, mk, h1, h2, h3, h4, h5⟩ := nodeAt_some hn
      refine walk (fun Q => by simp [go_sem]; rfl) (seqK_normal ?_)
      have hk64 : (k : Int) < 64 := by omega
      refine walk (fun Q => by simp [go_sem, h1, row3 h2 h3 h4, hk64, gFree1, one_map, h5]; rfl) (seqK_normal ?_)
      cases b with
      | false =>
        simp only [hn, Option.some.injEq] at hff
        subst hff
        refine onBool_true (by simp [go_sem]) ?_
        refine walk (fun Q => by simp [go_sem]; rfl) (seqK_normal ?_)
        refine blockK_ret (seqK_ret ⟨rfl, [foundV (some k)], by show resultsV _ _ _ [ResultVar.tmp 4] = _; simp [resultsV, go_sem, foundV], rfl, ?_⟩)
        exact within_of (fun id o q => q) (by show N + 1 ≤ S.nx + 64; omega)
      | true =>
        simp only [hn] at hff
        refine onBool_false (by simp [go_sem]) (blockK_normal (seqK_normal ?_))
        have hw : IntKind.i64.wrap ((k : Int) + 1) = ((k + 1 : Nat) : Int) := by rw [wrap_in (by omega) (by omega)]; rfl
        refine walk (fun Q => by simp [go_sem]; rfl) ?_
        refine ⟨64 - (k + 1), _, _, by omega, frIn_set (frIn_set (frIn_set (frIn_set frIn_nil (by simp [go_sem])) (by simp [go_sem])) (by simp [go_sem])) (by simp [go_sem]; exact hw), Within.refl _, k + 1, N + 1, rfl, by omega, by omega, by omega, hff, rfl, rfl⟩
  · have hge : k = 64 := by simp at hge; omega
    subst hge
    rw [show 64 - 64 = 0 from rfl, firstFree] at hff
    simp only [Option.some.injEq] at hff
    subst hff
    refine seqK_exit (blockK_exit (seqK_normal ?_))
    refine walk (fun Q => by simp [go_sem]; rfl) (seqK_normal ?_)
    exact ⟨rfl, [foundV none], by show resultsV _ _ _ [ResultVar.tmp 4] = _; simp [resultsV, go_sem, foundV], rfl, within_of (fun id o q => q) (by show N ≤ S.nx + 64; omega)⟩

end Go.Proofs.YtgdpedfahfmjeaaDoor

/-
  What the small functions of ramfs come to (4): the search among descriptors, free.
-/
namespace Go.Proofs.YtgdpedfahfmjeaaDoor
open Go Go.Vm

/-- a descriptor, as it lies: open, node, flags, position -/
def fileAt (S : St) (a j : Nat) : Option (Bool × Int × Int × Int) := match cellAt S a (192 + j * 4), cellAt S a (192 + j * 4 + 1), cellAt S a (192 + j * 4 + 2), cellAt S a (192 + j * 4 + 3) with
  | some (.bool o), some (.int .i64 nd), some (.int .i64 fl), some (.int .i64 ps) => some (o, nd, fl, ps)
  | _, _, _, _ => none

theorem fileAt_some {S : St} {a j : Nat} {o : Bool} {nd fl ps : Int} (h : fileAt S a j = some (o, nd, fl, ps)) :
    ∃ c n t ro mk, S.h.get a = some (.cells c n t ro mk) ∧ c.get (192 + j * 4) = some (.bool o) ∧ c.get (192 + j * 4 + 1) = some (.int .i64 nd) ∧ c.get (192 + j * 4 + 2) = some (.int .i64 fl) ∧ c.get (192 + j * 4 + 3) = some (.int .i64 ps) := by
  unfold fileAt at h
  split at h
  · rename_i o' nd' fl' ps' h1 h2 h3 h4
    simp only [Option.some.injEq, Prod.mk.injEq] at h
    obtain ⟨rfl, rfl, rfl, rfl⟩ := h
    obtain ⟨c, n, t, ro, mk, q1, q2⟩ := cellAt_some h1
    simp only [cellAt, q1] at h2 h3 h4
    exact ⟨c, n, t, ro, mk, q1, q2, h2, h3, h4⟩
  · cases h

theorem row4 {c : Tr VV} {k : Nat} {x y z u : VV} (h1 : c.get k = some x) (h2 : c.get (k + 1) = some y) (h3 : c.get (k + 2) = some z) (h4 : c.get (k + 3) = some u) : c.row k 4 = some [x, y, z, u] := by
  simp [Tr.row, h1, h2, h3, h4]

/-- the first descriptor of which something is so -/
def firstFile (S : St) (a : Nat) (test : Bool → Int → Bool) : Nat → Nat → Option (Option Nat)
  | 0, _ => some none
  | n + 1, k => match fileAt S a k with
    | some (o, nd, _, _) => match test o nd with
      | true => some (some k)
      | false => firstFile S a test n (k + 1)
    | none => none

set_option maxRecDepth 10000 in
theorem idxFile_T {S : St} {a f : Nat} {g : List VV → St → Option (En × St)} {caps : List VV} {test : Bool → Int → Bool} {r : Option Nat} (hov : ovA f = some g)
    (hcall : ∀ o nd fl ps N, S.nx ≤ N → g (.agg [.bool o, .int .i64 nd, .int .i64 fl, .int .i64 ps] :: caps) { h := S.h, nx := N } = some (.returned (.bool (test o nd)), { h := S.h, nx := N + 1 }))
    (h : firstFile S a test 16 0 = some r) : Does Tryd.prog 31 [.slice (some (a, 192)) 16 (.just 16), .func (.func f) [] caps] S (.returned (foundV r)) (S.up 16) := by
  refine Does.of baseA Tryd.func31 rfl (n := 19) rfl fun hfr => ?_
  simp only [tr_setAll_cons, tr_setAll_nil, wp]
  refine walk (fun Q => by simp [go_sem]; rfl) (seqK_normal ?_)
  refine walk (fun Q => by simp [go_sem]; rfl) (seqK_normal ?_)
  refine CodeT.forget (fr' := ⟨(((Tr.nil.set 0 (.slice (some (a, 192)) 16 (.just 16))).set 1 (.func (.func f) [] caps)).set 7 (.int .i64 16)).set 8 (.int .i64 ((0 : Nat) : Int)), 19, [], none⟩)
    (frIn_set (frIn_set (frIn_set (frIn_set frIn_nil (by simp [go_sem])) (by simp [go_sem])) (by simp [go_sem])) (by simp [go_sem])) (Within.refl _) ?_
  refine CodeT.loop_inv (I := fun m fr S' => ∃ k N, m = 16 - k ∧ k ≤ 16 ∧ S.nx ≤ N ∧ N ≤ S.nx + k ∧ firstFile S a test (16 - k) k = some r ∧ S' = { h := S.h, nx := N } ∧
    fr = ⟨(((Tr.nil.set 0 (.slice (some (a, 192)) 16 (.just 16))).set 1 (.func (.func f) [] caps)).set 7 (.int .i64 16)).set 8 (.int .i64 (k : Int)), 19, [], none⟩) ?_ 16 _ _ ⟨0, S.nx, rfl, by omega, Nat.le_refl _, Nat.le_refl _, h, rfl, rfl⟩
  rintro m fr S1 ⟨k, N, rfl, hk, hN, hN2, hff, rfl, rfl⟩
  refine wp_sound baseA _ ?_
  simp only [wp]
  refine walk (fun Q => by simp [go_sem]; rfl) (seqK_normal ?_)
  refine onBool_of (b := decide (k < 16)) (by simp [go_sem]; omega) (fun hlt => ?_) (fun hge => ?_)
  · have hlt : k < 16 := by simpa using hlt
    rw [show 16 - k = (16 - (k + 1)) + 1 by omega, firstFile] at hff
    refine seqK_normal ?_
    cases hn : fileAt S a k with
    | none => simp [hn] at hff
    | some q =>
      obtain ⟨o, nd, fl, ps⟩ := q
      obtain ⟨c, n, t, ro, mk, h1, h2, h3, h4, h5⟩ := fileAt_some hn
      refine walk (fun Q => by simp [go_sem]; rfl) (seqK_normal ?_)
      have hk64 : (k : Int) < 16 := by omega
      refine walk (fun Q => by simp [go_sem, h1, row4 h2 h3 h4 h5, hk64, hov, hcall _ _ _ _ _ hN]; rfl) (seqK_normal ?_)
      simp only [hn] at hff
      refine onBool_of (b := test o nd) (by simp [go_sem]) (fun ht => ?_) (fun ht => ?_)
      · simp only [ht, Option.some.injEq] at hff
        subst hff
        refine walk (fun Q => by simp [go_sem]; rfl) (seqK_normal ?_)
        refine blockK_ret (seqK_ret ⟨rfl, [foundV (some k)], by show resultsV _ _ _ [ResultVar.tmp 4] = _; simp [resultsV, go_sem, foundV], rfl, ?_⟩)
        exact within_of (fun id o q => q) (by show N + 1 ≤ S.nx + 16; omega)
      · simp only [ht] at hff
        refine blockK_normal (seqK_normal ?_)
        have hw : IntKind.i64.wrap ((k : Int) + 1) = ((k + 1 : Nat) : Int) := by rw [wrap_in (by omega) (by omega)]; rfl
        refine walk (fun Q => by simp [go_sem]; rfl) ?_
        refine ⟨16 - (k + 1), _, _, by omega, frIn_set (frIn_set (frIn_set (frIn_set frIn_nil (by simp [go_sem])) (by simp [go_sem])) (by simp [go_sem])) (by simp [go_sem]; exact hw), Within.refl _, k + 1, N + 1, rfl, by omega, by omega, by omega, hff, rfl, rfl⟩
  · have hge : k = 16 := by simp at hge; omega
    subst hge
    rw [show 16 - 16 = 0 from rfl, firstFile] at hff
    simp only [Option.some.injEq] at hff
    subst hff
    refine seqK_exit (blockK_exit (seqK_normal ?_))
    refine walk (fun Q => by simp [go_sem]; rfl) (seqK_normal ?_)
    exact ⟨rfl, [foundV none], by show resultsV _ _ _ [ResultVar.tmp 4] = _; simp [resultsV, go_sem, foundV], rfl, within_of (fun id o q => q) (by show N ≤ S.nx + 16; omega)⟩

def gIdxNode : List VV → St → Option (En × St)
  | [.slice (some (a, 0)) 64 (.just 64), .func (.func 55) [] []], S => match firstFree S a 64 0 with
    | some r => some (.returned (foundV r), S.up 64)
    | none => none
  | _, _ => none

/-- is a descriptor shut? -/
def shut (o : Bool) (_ : Int) : Bool := !o
/-- is a descriptor open, and leads to a node? -/
def leads (n : Int) (o : Bool) (nd : Int) : Bool := bif o then nd == n else false

def gIdxFile : List VV → St → Option (En × St)
  | [.slice (some (a, 192)) 16 (.just 16), .func (.func 32) [] []], S => match firstFile S a shut 16 0 with
    | some r => some (.returned (foundV r), S.up 16)
    | none => none
  | [.slice (some (a, 192)) 16 (.just 16), .func (.func 57) [] [.ptr (some (b, 0))]], S => match cellAt S b 0 with
    | some (.int .i64 n) => match firstFile S a (leads n) 16 0 with
      | some r => some (.returned (foundV r), S.up 16)
      | none => none
    | _ => none
  | _, _ => none

def ovB : Ov := fun f => match f with
  | 54 => some gIdxNode
  | 31 => some gIdxFile
  | f => ovA f

@[go_sem] theorem ovB54 : ovB 54 = some gIdxNode := rfl
@[go_sem] theorem ovB31 : ovB 31 = some gIdxFile := rfl
@[go_sem] theorem ovB25 : ovB 25 = some gNo := rfl
@[go_sem] theorem ovB40 : ovB 40 = some gThere := rfl
@[go_sem] theorem ovB29 : ovB 29 = some gDir := rfl

theorem idxNode_T' {args : List VV} {S S' : St} {e : En} (h : gIdxNode args S = some (e, S')) : Does Tryd.prog 54 args S e S' := by
  unfold gIdxNode at h
  split at h
  · split at h
    · rename_i a r hr
      simp only [Option.some.injEq, Prod.mk.injEq] at h
      obtain ⟨rfl, rfl⟩ := h
      exact idxNode_T hr
    · cases h
  · cases h

theorem idxFile_T' {args : List VV} {S S' : St} {e : En} (h : gIdxFile args S = some (e, S')) : Does Tryd.prog 31 args S e S' := by
  unfold gIdxFile at h
  split at h
  · split at h
    · rename_i a r hr
      simp only [Option.some.injEq, Prod.mk.injEq] at h
      obtain ⟨rfl, rfl⟩ := h
      exact idxFile_T (g := gOpen12) (test := shut) ovA32 (fun o nd fl ps N _ => rfl) hr
    · cases h
  · split at h
    · rename_i a b x n hc
      split at h
      · rename_i r hr
        simp only [Option.some.injEq, Prod.mk.injEq] at h
        obtain ⟨rfl, rfl⟩ := h
        refine idxFile_T (g := gGone1) (test := leads n) ovA57 (fun o nd fl ps N _ => ?_) hr
        have hc' : cellAt { h := S.h, nx := N } b 0 = some (.int .i64 n) := hc
        simp only [gGone1, hc']
        rfl
      · cases h
    · cases h
  · cases h

theorem ovB_sound : OvSound Tryd.prog ovB := by
  refine ovSound_of fun f g hf args S e S' hg => ?_
  unfold ovB at hf
  split at hf
  · cases hf; exact (idxNode_T' hg).fun noCount Tryd.func54 rfl
  · cases hf; exact (idxFile_T' hg).fun noCount Tryd.func31 rfl
  · exact ovA_sound f g args S e S' hf hg

theorem baseB : Base Tryd.prog ovB := ⟨mix, noCount, ovB_sound⟩

/-- the lowest free node -/
def gFree : List VV → St → Option (En × St)
  | [.ptr (some (a, 0))], S => match firstFree S a 64 0 with
    | some (some k) => some (.returned (.int .i64 (k : Int)), S.up 64)
    | some none => some (.panicked (refusedV 28), S.up 64)
    | none => none
  | _, _ => none

set_option maxRecDepth 10000 in
theorem free_T {args : List VV} {S S' : St} {e : En} (h : gFree args S = some (e, S')) : Does Tryd.prog 30 args S e S' := by
  unfold gFree at h
  split at h
  · rename_i a
    cases hr : firstFree S a 64 0 with
    | none => simp [hr] at h
    | some r =>
      refine Does.of baseB Tryd.func30 rfl (n := 13) rfl fun hfr => ?_
      simp only [tr_setAll_cons, tr_setAll_nil, wp]
      refine walk (fun Q => by simp [go_sem]; rfl) (seqK_normal ?_)
      refine walk (fun Q => by simp [go_sem, gIdxNode, hr]; rfl) (seqK_normal ?_)
      cases r with
      | none =>
        simp only [hr, Option.some.injEq, Prod.mk.injEq] at h
        obtain ⟨rfl, rfl⟩ := h
        simp [go_sem, foundV, gNo]
        exact seqK_panic ⟨rfl, rfl, .refl _⟩
      | some k =>
        simp only [hr, Option.some.injEq, Prod.mk.injEq] at h
        obtain ⟨rfl, rfl⟩ := h
        have hk : ((k : Int) < 0) = False := by simp
        refine walk (fun Q => by simp [go_sem, foundV, gNo, hk]; rfl) (seqK_normal ?_)
        refine walk (fun Q => by simp [go_sem, foundV]; rfl) (seqK_normal ?_)
        exact ⟨rfl, [.int .i64 (k : Int)], by show resultsV _ _ _ [ResultVar.tmp 2] = _; simp [resultsV, go_sem], rfl, .refl _⟩
  · cases h

/-- is something open that leads to a node? -/
def gContains : List VV → St → Option (En × St)
  | [.slice (some (a, 192)) 16 (.just 16), .func (.func 57) [] [.ptr (some (b, 0))]], S => match cellAt S b 0 with
    | some (.int .i64 n) => match firstFile S a (leads n) 16 0 with
      | some r => some (.returned (.bool r.isSome), S.up 16)
      | none => none
    | _ => none
  | _, _ => none

set_option maxRecDepth 10000 in
theorem contains_T {args : List VV} {S S' : St} {e : En} (h : gContains args S = some (e, S')) : Does Tryd.prog 56 args S e S' := by
  unfold gContains at h
  split at h
  · rename_i a b
    split at h
    · rename_i n hc
      split at h
      · rename_i r hr
        simp only [Option.some.injEq, Prod.mk.injEq] at h
        obtain ⟨rfl, rfl⟩ := h
        refine Does.of baseB Tryd.func56 rfl (n := 9) rfl fun hfr => ?_
        simp only [tr_setAll_cons, tr_setAll_nil, wp]
        refine walk (fun Q => by simp [go_sem]; rfl) (seqK_normal ?_)
        cases r with
        | none =>
          refine walk (fun Q => by simp [go_sem, gIdxFile, hc, hr, foundV]; rfl) (seqK_normal ?_)
          exact ⟨rfl, [.bool false], by show resultsV _ _ _ [ResultVar.tmp 4] = _; simp [resultsV, go_sem], rfl, .refl _⟩
        | some k =>
          have hk : (0 ≤ (k : Int)) = True := by simp
          refine walk (fun Q => by simp [go_sem, gIdxFile, hc, hr, foundV, hk]; rfl) (seqK_normal ?_)
          exact ⟨rfl, [.bool true], by show resultsV _ _ _ [ResultVar.tmp 4] = _; simp [resultsV, go_sem], rfl, .refl _⟩
      · cases h
    · cases h
  · cases h

end Go.Proofs.YtgdpedfahfmjeaaDoor

/-
  What the small functions of ramfs come to (5): Nodes, Bytes, links, at.
-/
namespace Go.Proofs.YtgdpedfahfmjeaaDoor
open Go Go.Vm

/-- how many of n nodes from k on there are -/
def countIs (S : St) (a : Nat) : Nat → Nat → Option Nat
  | 0, _ => some 0
  | n + 1, k => match cellAt S a (k * 3), countIs S a n (k + 1) with
    | some (.bool b), some c => some ((bif b then 1 else 0) + c)
    | _, _ => none

theorem countIs_le {S : St} {a : Nat} : ∀ {n k c : Nat}, countIs S a n k = some c → c ≤ n
  | 0, _, _, h => by simp only [countIs, Option.some.injEq] at h; omega
  | n + 1, k, c, h => by
    simp only [countIs] at h
    split at h
    · rename_i b c' h1 h2
      have := countIs_le h2
      simp only [Option.some.injEq] at h
      cases b <;> simp only [cond_true, cond_false] at h <;> omega
    · cases h

def gNodes : List VV → St → Option (En × St)
  | [.ptr none], S => some (.returned (.int .i64 0), S)
  | [.ptr (some (a, 0))], S => match cellAt S a 0 with
    | some (.bool false) => some (.returned (.int .i64 0), S)
    | some (.bool true) => match countIs S a 64 0 with
      | some c => some (.returned (.int .i64 (c : Int)), S)
      | none => none
    | _ => none
  | _, _ => none

/-- one way round the loop's head, where nothing is there -/
theorem nodes_none {x : VV} {S : St} (hx : gThere [x] S = some (.returned (.bool false), S)) : Does Tryd.prog 13 [x] S (.returned (.int .i64 0)) S := by
  refine Does.of baseB Tryd.func13 rfl (n := 23) rfl fun hfr => ?_
  simp only [tr_setAll_cons, tr_setAll_nil, wp]
  refine walk (fun Q => by simp [go_sem]; rfl) (seqK_normal ?_)
  refine walk (fun Q => by simp [go_sem]; rfl) (seqK_normal ?_)
  refine walk (fun Q => by simp [go_sem]; rfl) (seqK_normal ?_)
  refine CodeT.loop (wp_sound baseB _ ?_)
  simp only [wp]
  refine walk (fun Q => by simp [go_sem, hx]; rfl) (seqK_normal ?_)
  refine onBool_false (by simp [go_sem]) (seqK_exit (blockK_exit (seqK_normal ?_)))
  refine walk (fun Q => by simp [go_sem]; rfl) (seqK_normal ?_)
  exact ⟨rfl, [.int .i64 0], by show resultsV _ _ _ [ResultVar.tmp 2] = _; simp [resultsV, go_sem], rfl, .refl _⟩

set_option maxRecDepth 10000 in
theorem nodes_T {args : List VV} {S S' : St} {e : En} (h : gNodes args S = some (e, S')) : Does Tryd.prog 13 args S e S' := by
  unfold gNodes at h
  split at h
  · simp only [Option.some.injEq, Prod.mk.injEq] at h
    obtain ⟨rfl, rfl⟩ := h
    exact nodes_none rfl
  · rename_i a
    split at h
    · rename_i h0
      simp only [Option.some.injEq, Prod.mk.injEq] at h
      obtain ⟨rfl, rfl⟩ := h
      exact nodes_none (by simp only [gThere, h0])
    · rename_i h0
      cases hc : countIs S a 64 0 with
      | none => simp [hc] at h
      | some c =>
        simp only [hc, Option.some.injEq, Prod.mk.injEq] at h
        obtain ⟨rfl, rfl⟩ := h
        have hth : gThere [.ptr (some (a, 0))] S = some (.returned (.bool true), S) := by simp only [gThere, h0]
        refine Does.of baseB Tryd.func13 rfl (n := 23) rfl fun hfr => ?_
        simp only [tr_setAll_cons, tr_setAll_nil, wp]
        refine walk (fun Q => by simp [go_sem]; rfl) (seqK_normal ?_)
        refine walk (fun Q => by simp [go_sem]; rfl) (seqK_normal ?_)
        refine walk (fun Q => by simp [go_sem]; rfl) (seqK_normal ?_)
        refine CodeT.forget (fr' := ⟨((Tr.nil.set 0 (.ptr (some (a, 0)))).set 3 (.int .i64 ((0 : Nat) : Int))).set 4 (.int .i64 ((0 : Nat) : Int)), 23, [], none⟩)
          (frIn_set (frIn_set (frIn_set frIn_nil (by simp [go_sem])) (by simp [go_sem])) (by simp [go_sem])) (Within.refl _) ?_
        refine CodeT.loop_inv (I := fun m fr S' => ∃ k acc rest, m = 64 - k ∧ k ≤ 64 ∧ countIs S a (64 - k) k = some rest ∧ acc + rest = c ∧ S' = S ∧
          fr = ⟨((Tr.nil.set 0 (.ptr (some (a, 0)))).set 3 (.int .i64 ((acc : Nat) : Int))).set 4 (.int .i64 ((k : Nat) : Int)), 23, [], none⟩) ?_ 64 _ _ ⟨0, 0, c, rfl, by omega, hc, by omega, rfl, rfl⟩
        rintro m fr S1 ⟨k, acc, rest, rfl, hk, hcc, hacc, rfl, rfl⟩
        have hcle := countIs_le hc
        refine wp_sound baseB _ ?_
        simp only [wp]
        refine walk (fun Q => by simp [go_sem, hth]; rfl) (seqK_normal ?_)
        refine onBool_of (b := decide (k < 64)) (by simp [go_sem]; omega) (fun hlt => ?_) (fun hge => ?_)
        · have hlt : k < 64 := by simpa using hlt
          have hk64 : (k : Int) < 64 := by omega
          rw [show 64 - k = (64 - (k + 1)) + 1 by omega, countIs] at hcc
          split at hcc
          · rename_i b c' h1 h2
            obtain ⟨cc, n, t, ro, mk, q1, q2⟩ := cellAt_some h1
            have hw : IntKind.i64.wrap ((k : Int) + 1) = ((k + 1 : Nat) : Int) := by rw [wrap_in (by omega) (by omega)]; rfl
            refine seqK_normal ?_
            refine walk (fun Q => by simp [go_sem, hk64, q1, q2]; rfl) (seqK_normal ?_)
            cases b with
            | true =>
              simp only [cond_true, Option.some.injEq] at hcc
              have hw2 : IntKind.i64.wrap ((acc : Int) + 1) = ((acc + 1 : Nat) : Int) := by rw [wrap_in (by omega) (by omega)]; rfl
              refine onBool_true (by simp [go_sem]) ?_
              refine walk (fun Q => by simp [go_sem]; rfl) (blockK_normal (seqK_normal ?_))
              refine walk (fun Q => by simp [go_sem]; rfl) ?_
              exact ⟨64 - (k + 1), _, _, by omega, frIn_set (frIn_set (frIn_set frIn_nil (by simp [go_sem])) (by simp [go_sem]; exact hw2)) (by simp [go_sem]; exact hw), Within.refl _, k + 1, acc + 1, c', rfl, by omega, h2, by omega, rfl, rfl⟩
            | false =>
              simp only [cond_false, Option.some.injEq] at hcc
              refine onBool_false (by simp [go_sem]) (blockK_normal (seqK_normal ?_))
              refine walk (fun Q => by simp [go_sem]; rfl) ?_
              exact ⟨64 - (k + 1), _, _, by omega, frIn_set (frIn_set (frIn_set frIn_nil (by simp [go_sem])) (by simp [go_sem])) (by simp [go_sem]; exact hw), Within.refl _, k + 1, acc, c', rfl, by omega, h2, by omega, rfl, rfl⟩
          · cases hcc
        · have hge : k = 64 := by simp at hge; omega
          subst hge
          rw [show 64 - 64 = 0 from rfl, countIs] at hcc
          simp only [Option.some.injEq] at hcc
          have : acc = c := by omega
          subst this
          refine seqK_exit (blockK_exit (seqK_normal ?_))
          refine walk (fun Q => by simp [go_sem]; rfl) (seqK_normal ?_)
          exact ⟨rfl, [.int .i64 (acc : Int)], by show resultsV _ _ _ [ResultVar.tmp 2] = _; simp [resultsV, go_sem], rfl, .refl _⟩
    · cases h
  · cases h

/-- how many bytes n nodes from k on have -/
def sumLen (S : St) (a : Nat) : Nat → Nat → Option Nat
  | 0, _ => some 0
  | n + 1, k => match cellAt S a (k * 3 + 2), sumLen S a n (k + 1) with
    | some (.slice _ m _), some c => some (m + c)
    | _, _ => none

def gBytes : List VV → St → Option (En × St)
  | [.ptr none], S => some (.returned (.int .i64 0), S)
  | [.ptr (some (a, 0))], S => match cellAt S a 0 with
    | some (.bool false) => some (.returned (.int .i64 0), S)
    | some (.bool true) => match sumLen S a 64 0 with
      | some c => match Nat.ble c 4611686018427387904 with
        | true => some (.returned (.int .i64 (c : Int)), S)
        | false => none
      | none => none
    | _ => none
  | _, _ => none

theorem bytes_none {x : VV} {S : St} (hx : gThere [x] S = some (.returned (.bool false), S)) : Does Tryd.prog 14 [x] S (.returned (.int .i64 0)) S := by
  refine Does.of baseB Tryd.func14 rfl (n := 24) rfl fun hfr => ?_
  simp only [tr_setAll_cons, tr_setAll_nil, wp]
  refine walk (fun Q => by simp [go_sem]; rfl) (seqK_normal ?_)
  refine walk (fun Q => by simp [go_sem]; rfl) (seqK_normal ?_)
  refine walk (fun Q => by simp [go_sem]; rfl) (seqK_normal ?_)
  refine CodeT.loop (wp_sound baseB _ ?_)
  simp only [wp]
  refine walk (fun Q => by simp [go_sem, hx]; rfl) (seqK_normal ?_)
  refine onBool_false (by simp [go_sem]) (seqK_exit (blockK_exit (seqK_normal ?_)))
  refine walk (fun Q => by simp [go_sem]; rfl) (seqK_normal ?_)
  exact ⟨rfl, [.int .i64 0], by show resultsV _ _ _ [ResultVar.tmp 2] = _; simp [resultsV, go_sem], rfl, .refl _⟩

set_option maxRecDepth 10000 in
theorem bytes_T {args : List VV} {S S' : St} {e : En} (h : gBytes args S = some (e, S')) : Does Tryd.prog 14 args S e S' := by
  unfold gBytes at h
  split at h
  · simp only [Option.some.injEq, Prod.mk.injEq] at h
    obtain ⟨rfl, rfl⟩ := h
    exact bytes_none rfl
  · rename_i a
    split at h
    · rename_i h0
      simp only [Option.some.injEq, Prod.mk.injEq] at h
      obtain ⟨rfl, rfl⟩ := h
      exact bytes_none (by simp only [gThere, h0])
    · rename_i h0
      cases hc : sumLen S a 64 0 with
      | none => simp [hc] at h
      | some c =>
        cases hle : Nat.ble c 4611686018427387904 with
        | false => simp [hc, hle] at h
        | true =>
        simp only [hc, hle, Option.some.injEq, Prod.mk.injEq] at h
        obtain ⟨rfl, rfl⟩ := h
        have hcle : c ≤ 4611686018427387904 := Nat.le_of_ble_eq_true hle
        have hth : gThere [.ptr (some (a, 0))] S = some (.returned (.bool true), S) := by simp only [gThere, h0]
        refine Does.of baseB Tryd.func14 rfl (n := 24) rfl fun hfr => ?_
        simp only [tr_setAll_cons, tr_setAll_nil, wp]
        refine walk (fun Q => by simp [go_sem]; rfl) (seqK_normal ?_)
        refine walk (fun Q => by simp [go_sem]; rfl) (seqK_normal ?_)
        refine walk (fun Q => by simp [go_sem]; rfl) (seqK_normal ?_)
        refine CodeT.forget (fr' := ⟨((Tr.nil.set 0 (.ptr (some (a, 0)))).set 3 (.int .i64 ((0 : Nat) : Int))).set 4 (.int .i64 ((0 : Nat) : Int)), 24, [], none⟩)
          (frIn_set (frIn_set (frIn_set frIn_nil (by simp [go_sem])) (by simp [go_sem])) (by simp [go_sem])) (Within.refl _) ?_
        refine CodeT.loop_inv (I := fun m fr S' => ∃ k acc rest, m = 64 - k ∧ k ≤ 64 ∧ sumLen S a (64 - k) k = some rest ∧ acc + rest = c ∧ S' = S ∧
          fr = ⟨((Tr.nil.set 0 (.ptr (some (a, 0)))).set 3 (.int .i64 ((acc : Nat) : Int))).set 4 (.int .i64 ((k : Nat) : Int)), 24, [], none⟩) ?_ 64 _ _ ⟨0, 0, c, rfl, by omega, hc, by omega, rfl, rfl⟩
        rintro m fr S1 ⟨k, acc, rest, rfl, hk, hcc, hacc, rfl, rfl⟩
        refine wp_sound baseB _ ?_
        simp only [wp]
        refine walk (fun Q => by simp [go_sem, hth]; rfl) (seqK_normal ?_)
        refine onBool_of (b := decide (k < 64)) (by simp [go_sem]; omega) (fun hlt => ?_) (fun hge => ?_)
        · have hlt : k < 64 := by simpa using hlt
          have hk64 : (k : Int) < 64 := by omega
          rw [show 64 - k = (64 - (k + 1)) + 1 by omega, sumLen] at hcc
          split at hcc
          · rename_i sb m cap c' h1 h2
            obtain ⟨cc, n, t, ro, mk, q1, q2⟩ := cellAt_some h1
            simp only [Option.some.injEq] at hcc
            have hw : IntKind.i64.wrap ((k : Int) + 1) = ((k + 1 : Nat) : Int) := by rw [wrap_in (by omega) (by omega)]; rfl
            have hw2 : IntKind.i64.wrap ((acc : Int) + (m : Int)) = ((acc + m : Nat) : Int) := by rw [wrap_in (by omega) (by omega)]; push_cast; rfl
            refine seqK_normal ?_
            refine walk (fun Q => by simp [go_sem, hk64, q1, q2]; rfl) (blockK_normal (seqK_normal ?_))
            refine walk (fun Q => by simp [go_sem]; rfl) ?_
            exact ⟨64 - (k + 1), _, _, by omega, frIn_set (frIn_set (frIn_set frIn_nil (by simp [go_sem])) (by simp [go_sem]; exact hw2)) (by simp [go_sem]; exact hw), Within.refl _, k + 1, acc + m, c', rfl, by omega, h2, by omega, rfl, rfl⟩
          · cases hcc
        · have hge : k = 64 := by simp at hge; omega
          subst hge
          rw [show 64 - 64 = 0 from rfl, sumLen] at hcc
          simp only [Option.some.injEq] at hcc
          have : acc = c := by omega
          subst this
          refine seqK_exit (blockK_exit (seqK_normal ?_))
          refine walk (fun Q => by simp [go_sem]; rfl) (seqK_normal ?_)
          exact ⟨rfl, [.int .i64 (acc : Int)], by show resultsV _ _ _ [ResultVar.tmp 2] = _; simp [resultsV, go_sem], rfl, .refl _⟩
    · cases h
  · cases h

end Go.Proofs.YtgdpedfahfmjeaaDoor

/-
  What the small functions of ramfs come to (6): links, at, gone.
-/
namespace Go.Proofs.YtgdpedfahfmjeaaDoor
open Go Go.Vm

/-- the names in a node, as they lie -/
def mapOf (S : St) (a i : Nat) : Option Nat := match cellAt S a (i * 3 + 1) with
  | some (.map m) => m
  | _ => none
def esOf (S : St) (a i : Nat) : List (VV × VV × Nat) := match mapOf S a i with
  | some r => match S.h.get r with
    | some (.map es _) => es
    | _ => []
  | none => []

def mapOkB (es : List (VV × VV × Nat)) (clk : Nat) : Bool := decide ((es.map (·.2.2)).Nodup) && es.all fun e => Nat.blt e.2.2 clk && (match e.2.1 with
  | .int .i64 _ => true
  | _ => false)

theorem mapOkB_spec {es : List (VV × VV × Nat)} {clk : Nat} (h : mapOkB es clk = true) : MapOk es clk := by
  simp only [mapOkB, Bool.and_eq_true, decide_eq_true_eq, List.all_eq_true] at h
  refine ⟨h.1, fun e he => by have := (h.2 e he).1; simpa [Nat.blt_eq] using this, fun e he => ?_⟩
  have := (h.2 e he).2
  split at this
  · rename_i n hn; exact ⟨n, hn⟩
  · cases this

/-- of n nodes from k on -/
def namesOk (S : St) (a : Nat) : Nat → Nat → Bool
  | 0, _ => true
  | n + 1, k => match nodeAt S a k with
    | some (_, m, _) => (match m with
      | some r => match S.h.get r with
        | some (.map es clk) => mapOkB es clk
        | _ => false
      | none => true) && namesOk S a n (k + 1)
    | none => false

theorem namesOk_spec {S : St} {a : Nat} : ∀ {n k : Nat}, namesOk S a n k = true → ∀ i, k ≤ i → i < k + n → ∃ b m s, nodeAt S a i = some (b, m, s) ∧ ∀ r, m = some r → ∃ es clk, S.h.get r = some (.map es clk) ∧ MapOk es clk
  | 0, k, _, i, h1, h2 => by omega
  | n + 1, k, h, i, h1, h2 => by
    simp only [namesOk] at h
    split at h
    · rename_i b m s hn
      simp only [Bool.and_eq_true] at h
      by_cases e : i = k
      · subst e
        refine ⟨b, m, s, hn, fun r hr => ?_⟩
        subst hr
        have h3 := h.1
        simp only at h3
        split at h3
        · rename_i es clk hq; exact ⟨es, clk, hq, mapOkB_spec h3⟩
        · cases h3
      · exact namesOk_spec h.2 i (by omega) (by omega)
    · cases h

/-- a row out of its triples -/
theorem row_triples {c : Tr VV} {f : Nat → VV × VV × VV} : ∀ (n k : Nat), (∀ i, k ≤ i → i < k + n → c.get (i * 3) = some (f i).1 ∧ c.get (i * 3 + 1) = some (f i).2.1 ∧ c.get (i * 3 + 2) = some (f i).2.2) →
    ∃ l, c.row (k * 3) (n * 3) = some l ∧ ∀ i, i < n → (l.drop (i * 3)).take 3 = [(f (k + i)).1, (f (k + i)).2.1, (f (k + i)).2.2]
  | 0, k, _ => ⟨[], by simp [Tr.row], fun i h => by omega⟩
  | n + 1, k, h => by
    obtain ⟨l, h1, h2⟩ := row_triples (c := c) (f := f) n (k + 1) fun i q1 q2 => h i (by omega) (by omega)
    obtain ⟨a1, a2, a3⟩ := h k (Nat.le_refl _) (by omega)
    refine ⟨(f k).1 :: (f k).2.1 :: (f k).2.2 :: l, ?_, fun i hi => ?_⟩
    · rw [show (n + 1) * 3 = (n * 3) + 1 + 1 + 1 by omega]
      have h1' : c.row (k * 3 + 1 + 1 + 1) (n * 3) = some l := by rw [show k * 3 + 1 + 1 + 1 = (k + 1) * 3 by omega]; exact h1
      have a2' : c.get (k * 3 + 1) = some (f k).2.1 := a2
      have a3' : c.get (k * 3 + 1 + 1) = some (f k).2.2 := a3
      simp only [Tr.row, a1, a2', a3', h1']
    · cases i with
      | zero => simp
      | succ i =>
        rw [show (i + 1) * 3 = i * 3 + 1 + 1 + 1 by omega]
        simp only [List.drop_succ_cons]
        rw [h2 i (by omega), show k + 1 + i = k + (i + 1) by omega]

theorem names_at {S : St} {a : Nat} (h : namesOk S a 64 0 = true) : NamesAt S a (mapOf S a) (esOf S a) := by
  have hs := namesOk_spec h
  obtain ⟨b0, m0, s0, hn0, _⟩ := hs 0 (by omega) (by omega)
  obtain ⟨c, n, t, ro, mk, hS, _⟩ := nodeAt_some hn0
  have hall : ∀ i, i < 64 → ∃ b m s, c.get (i * 3) = some (.bool b) ∧ c.get (i * 3 + 1) = some (.map m) ∧ c.get (i * 3 + 2) = some s ∧ s.one = true ∧ mapOf S a i = m ∧ ∀ r, m = some r → ∃ es clk, S.h.get r = some (.map es clk) ∧ MapOk es clk := by
    intro i hi
    obtain ⟨b, m, s, hn, hm⟩ := hs i (by omega) (by omega)
    obtain ⟨c', n', t', ro', mk', q1, q2, q3, q4, q5⟩ := nodeAt_some hn
    rw [hS] at q1
    cases q1
    exact ⟨b, m, s, q2, q3, q4, q5, by simp [mapOf, cellAt, hS, q3], hm⟩
  refine ⟨?_, ?_, ?_⟩
  · obtain ⟨l, h1, h2⟩ := row_triples (c := c) (f := fun i => ((c.get (i * 3)).getD .any, (c.get (i * 3 + 1)).getD .any, (c.get (i * 3 + 2)).getD .any)) 64 0 fun i _ hi => by
      obtain ⟨b, m, s, q1, q2, q3, _⟩ := hall i (by omega)
      simp [q1, q2, q3]
    refine ⟨c, n, t, ro, mk, l, hS, h1, fun i hi => ?_⟩
    obtain ⟨b, m, s, q1, q2, q3, q4, q5, _⟩ := hall i hi
    refine ⟨b, s, ?_, q4⟩
    rw [h2 i hi]
    simp [q1, q2, q3, q5]
  · intro i hi hm
    simp [esOf, hm]
  · intro i hi r hm
    obtain ⟨b, m, s, q1, q2, q3, q4, q5, q6⟩ := hall i hi
    obtain ⟨es, clk, h1, h2⟩ := q6 r (q5.symm.trans hm)
    exact ⟨clk, by simp [esOf, hm, h1], by simpa [esOf, hm, h1] using h2⟩

def gLinks : List VV → St → Option (En × St)
  | [.ptr (some (a, 0)), .int .i64 n], S => match namesOk S a 64 0 with
    | true => some (.returned (.int .i64 (IntKind.i64.wrap (tot n (esOf S a) 64 : Nat))), S.up 128)
    | false => none
  | _, _ => none

theorem links_T' {args : List VV} {S S' : St} {e : En} (h : gLinks args S = some (e, S')) : Does Tryd.prog 58 args S e S' := by
  unfold gLinks at h
  split at h
  · rename_i a n
    split at h
    · rename_i hn
      simp only [Option.some.injEq, Prod.mk.injEq] at h
      obtain ⟨rfl, rfl⟩ := h
      refine (links_T baseB (names_at hn) n).mono ?_
      rintro e rc S1 ⟨rfl, _, N, h1, h2, rfl⟩
      exact ⟨rfl, within_of (fun _ _ q => q) h2⟩
    · cases h
  · cases h

end Go.Proofs.YtgdpedfahfmjeaaDoor
