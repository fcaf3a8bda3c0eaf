/-
  What is proved here: what Mkdir and Write come to; the tables; known answers true. No condition.
-/
import Derived.Test.YtgdpedfahfmjeaaDoorRb

/-
  What a directory's making comes to (the closure that face does).
-/
namespace Go.Proofs.YtgdpedfahfmjeaaDoor
open Go Go.Vm

/-- then -/
def bindG (x : Option (En × St)) (f : VV → St → Option (En × St)) : Option (En × St) := match x with
  | some (.returned v, S) => f v S
  | some (.panicked ch, S) => some (.panicked ch, S)
  | none => none
def bindPtr (S : St) (b : Nat) (f : Nat × Nat → Option (En × St)) : Option (En × St) := match cellAt S b 0 with
  | some (.ptr (some a)) => f a
  | _ => none
def bindStr (S : St) (b : Nat) (f : List UInt8 → Option (En × St)) : Option (En × St) := match cellAt S b 0 with
  | some (.str s) => f s
  | _ => none

theorem bindG_some {x : Option (En × St)} {f : VV → St → Option (En × St)} {r : En × St} (h : bindG x f = some r) : (∃ v S1, x = some (.returned v, S1) ∧ f v S1 = some r) ∨ ∃ ch S1, x = some (.panicked ch, S1) ∧ r = (.panicked ch, S1) := by
  unfold bindG at h
  split at h
  · exact .inl ⟨_, _, rfl, h⟩
  · exact .inr ⟨_, _, rfl, (Option.some.inj h).symm⟩
  · cases h
theorem bindPtr_some {S : St} {b : Nat} {f : Nat × Nat → Option (En × St)} {r : En × St} (h : bindPtr S b f = some r) : ∃ a c n t ro mk, S.h.get b = some (.cells c n t ro mk) ∧ c.get 0 = some (.ptr (some a)) ∧ f a = some r := by
  unfold bindPtr at h
  split at h
  · rename_i a hc
    obtain ⟨c, n, t, ro, mk, q1, q2⟩ := cellAt_some hc
    exact ⟨a, c, n, t, ro, mk, q1, q2, h⟩
  · cases h
theorem bindStr_some {S : St} {b : Nat} {f : List UInt8 → Option (En × St)} {r : En × St} (h : bindStr S b f = some r) : ∃ s c n t ro mk, S.h.get b = some (.cells c n t ro mk) ∧ c.get 0 = some (.str s) ∧ f s = some r := by
  unfold bindStr at h
  split at h
  · rename_i a hc
    obtain ⟨c, n, t, ro, mk, q1, q2⟩ := cellAt_some hc
    exact ⟨a, c, n, t, ro, mk, q1, q2, h⟩
  · cases h

@[go_sem] theorem agg25 : isAggV Tryd.prog 25 = some false := by kernel_rfl
@[go_sem] theorem size25 : sizeV Tryd.prog 25 = some 1 := by kernel_rfl

@[go_sem] theorem mm49 (S : St) : makeMapV Tryd.prog S 49 none = some (.map (some S.nx), { h := S.h.set S.nx (.map [] 0), nx := S.nx + 1 }) := by
  simp only [makeMapV, Tr.with_eq]
@[go_sem] theorem bd51m (m : Option Nat) : buildV Tryd.prog 51 [(0, .bool true), (1, .map m)] = some (.agg [.bool true, .map m, .slice none 0 (.just 0)]) := by kernel_rfl
@[go_sem] theorem bd51 : buildV Tryd.prog 51 [(0, .bool true)] = some (.agg [.bool true, .map none, .slice none 0 (.just 0)]) := by kernel_rfl

/-- which entry is a name's, and when it was born -/
def idxS (s : List UInt8) : List (VV × VV × Nat) → Nat → Option (Option (Nat × Nat))
  | [], _ => some none
  | (k, _, b) :: es, i => match k with
    | .str s' => match strEq s s' with
      | true => some (some (i, b))
      | false => idxS s es (i + 1)
    | _ => none

/-- a name leads somewhere -/
def putS (S : St) (m : VV) (s : List UInt8) (v : VV) : Option St := match m with
  | .map (some r) => match S.h.get r with
    | some (.map es c) => match idxS s es 0 with
      | some (some (i, b)) => some { h := S.h.set r (.map (es.set i (.str s, v, b)) c), nx := S.nx }
      | some none => some { h := S.h.set r (.map (es ++ [(.str s, v, c)]) (c + 1)), nx := S.nx }
      | none => none
    | _ => none
  | _ => none

theorem idxS_find (S : St) (s : List UInt8) : ∀ (es : List (VV × VV × Nat)) (i : Nat) (x : Option (Nat × Nat)), idxS s es i = some x → match x with
    | some (j, b) => i ≤ j ∧ ∃ v, findV Tryd.prog S 9 (.str s) es i = some (some (j, v, b)) ∧ ∃ k, es[j - i]? = some (.str k, v, b) ∧ strEq s k = true
    | none => findV Tryd.prog S 9 (.str s) es i = some none
  | [], i, x, h => by simp only [idxS, Option.some.injEq] at h; subst h; rfl
  | (k, v, b) :: es, i, x, h => by
    simp only [idxS] at h
    split at h
    · rename_i s'
      cases hq : strEq s s' with
      | true =>
        simp only [hq, Option.some.injEq] at h
        subst h
        exact ⟨Nat.le_refl _, v, by simp only [findV, eq9, hq], s', by simp, hq⟩
      | false =>
        simp only [hq] at h
        have ih := idxS_find S s es (i + 1) x h
        cases x with
        | none => simp only [findV, eq9, hq]; exact ih
        | some u =>
          obtain ⟨j, b'⟩ := u
          obtain ⟨h0, v', h1, k, h3, h4⟩ := ih
          refine ⟨by omega, v', by simp only [findV, eq9, hq]; exact h1, k, ?_, h4⟩
          rw [show j - i = (j - (i + 1)) + 1 by omega]
          simpa using h3
    · cases h

set_option maxRecDepth 10000 in
theorem putS_map {S S' : St} {m : VV} {s : List UInt8} {v : VV} (h : putS S m s v = some S') : mapSetV Tryd.prog S 49 m (.str s) v = some (undefV, S') := by
  unfold putS at h
  split at h
  · rename_i r
    split at h
    · rename_i es c hr
      split at h
      · rename_i i b hi
        simp only [Option.some.injEq] at h
        subst h
        obtain ⟨h0, v', h1, k, h3, h4⟩ := idxS_find S s es 0 _ hi
        rw [Nat.sub_zero] at h3
        have hk : sameV (.str k) (.str s) = true := by
          simp only [sameV]
          rw [strEq_eq, beq_iff_eq] at h4 ⊢
          exact h4.symm
        simp only [mapSetV, und49, keyOk9, mapOfV, hr, h1, h3, hk, Tr.with_eq]
      · rename_i hi
        simp only [Option.some.injEq] at h
        subst h
        have h1 := idxS_find S s es 0 _ hi
        simp only at h1
        simp only [mapSetV, und49, keyOk9, mapOfV, hr, h1, Tr.with_eq]
      · cases h
    · cases h
  · cases h

def ovH : Ov := fun f => match f with
  | 24 => some gSplit
  | 27 => some gPlace
  | f => ovU f
@[go_sem] theorem ovH24 : ovH 24 = some gSplit := rfl
@[go_sem] theorem ovH27 : ovH 27 = some gPlace := rfl
@[go_sem] theorem ovH13 : ovH 13 = some gNodes := rfl
@[go_sem] theorem ovH14 : ovH 14 = some gBytes := rfl
@[go_sem] theorem ovH25 : ovH 25 = some gNo := rfl
@[go_sem] theorem ovH28 : ovH 28 = some gWalk := rfl
@[go_sem] theorem ovH29 : ovH 29 = some gDir := rfl
@[go_sem] theorem ovH30 : ovH 30 = some gFree := rfl
@[go_sem] theorem ovH31 : ovH 31 = some gIdxFile := rfl
@[go_sem] theorem ovH34 : ovH 34 = some gAt := rfl
@[go_sem] theorem ovH37 : ovH 37 = some gMust := rfl
@[go_sem] theorem ovH39 : ovH 39 = some gGone := rfl
@[go_sem] theorem ovH40 : ovH 40 = some gThere := rfl
theorem ovH_sound : OvSound Tryd.prog ovH := by
  refine ovSound_of fun f g hf args S e S' hg => ?_
  unfold ovH at hf
  split at hf
  · cases hf; exact (split_T hg).fun noCount Tryd.func24 rfl
  · cases hf; exact (place_T hg).fun noCount Tryd.func27 rfl
  · exact ovU_sound f g args S e S' hf hg
theorem baseH : Base Tryd.prog ovH := ⟨mix, noCount, ovH_sound⟩

def gMkdir : List VV → St → Option (En × St)
  | [.ptr (some (pb, 0)), .ptr (some (fb, 0))], S => bindStr S pb fun p => bindG (gSplit [.str p] S) fun sl S1 => bindPtr S1 fb fun a => bindG (gPlace [.ptr (some a), sl] S1) fun t S2 => match t with
    | .tuple [mp, .str last] => bindPtr S2 fb fun a2 => bindG (gWalk [.ptr (some a2), sl] S2) fun n S3 => match n with
      | .int .i64 n => match decide (0 ≤ n) with
        | true => some (.panicked (refusedV 17), S3)
        | false => bindPtr S3 fb fun a3 => bindG (gFree [.ptr (some a3)] S3) fun k S4 => match k with
          | .int .i64 k => bindPtr S4 fb fun a4 => match decide (0 ≤ k ∧ k < 64) with
            | true => match storeV { h := S4.h.set S4.nx (.map [] 0), nx := S4.nx + 1 } a4.1 (a4.2 + 0 + k.toNat * 3) [.bool true, .map (some S4.nx), .slice none 0 (.just 0)] with
              | some S5 => match putS S5 mp last (.int .i64 k) with
                | some S6 => some (.returned (.tuple []), S6)
                | none => none
              | none => none
            | false => none
          | _ => none
      | _ => none
    | _ => none
  | _, _ => none

set_option maxRecDepth 10000 in
set_option maxHeartbeats 1000000 in
theorem mkdir_T {args : List VV} {S S' : St} {e : En} (h : gMkdir args S = some (e, S')) : Does Tryd.prog 35 args S e S' := by
  unfold gMkdir at h
  split at h
  · rename_i pb fb
    refine Does.of baseH Tryd.func35 rfl (n := 31) rfl fun hfr => ?_
    simp only [tr_setAll_cons, tr_setAll_nil, wp]
    obtain ⟨p, c, n, t, ro, mk, q1, q2, h⟩ := bindStr_some h
    obtain ⟨sl, S1, hs, h⟩ | ⟨ch, S1, hs, he⟩ := bindG_some h
    rotate_left
    · cases he
      refine walk_out (x := .panic ch) (fun Q => by simp [go_sem, q1, q2, hs]; rfl) (seqK_panic ⟨rfl, rfl, .refl _⟩)
    refine walk (fun Q => by simp [go_sem, q1, q2, hs]; rfl) (seqK_normal ?_)
    obtain ⟨a, c, n, t, ro, mk, q1, q2, h⟩ := bindPtr_some h
    obtain ⟨t2, S2, hs, h⟩ | ⟨ch, S2, hs, he⟩ := bindG_some h
    rotate_left
    · cases he
      refine walk_out (x := .panic ch) (fun Q => by simp [go_sem, q1, q2, hs]; rfl) (seqK_panic ⟨rfl, rfl, .refl _⟩)
    split at h
    rotate_left
    · cases h
    rename_i mp last
    refine walk (fun Q => by simp [go_sem, q1, q2, hs]; rfl) (seqK_normal ?_)
    obtain ⟨a, c, n, t, ro, mk, q1, q2, h⟩ := bindPtr_some h
    obtain ⟨n3, S3, hs, h⟩ | ⟨ch, S3, hs, he⟩ := bindG_some h
    rotate_left
    · cases he
      refine walk_out (x := .panic ch) (fun Q => by simp [go_sem, q1, q2, hs]; rfl) (seqK_panic ⟨rfl, rfl, .refl _⟩)
    split at h
    rotate_left
    · cases h
    rename_i k3
    split at h
    · rename_i hk
      cases h
      have hk : 0 ≤ k3 := by simpa using hk
      refine walk_out (x := .panic (refusedV 17)) (fun Q => by simp [go_sem, q1, q2, hs, gNo, hk]; rfl) (seqK_panic ⟨rfl, rfl, .refl _⟩)
    rename_i hk
    have hk : (0 ≤ k3) = False := by simpa using hk
    refine walk (fun Q => by simp [go_sem, q1, q2, hs, gNo, hk]; rfl) (seqK_normal ?_)
    obtain ⟨a, c, n, t, ro, mk, q1, q2, h⟩ := bindPtr_some h
    obtain ⟨n4, S4, hs, h⟩ | ⟨ch, S4, hs, he⟩ := bindG_some h
    rotate_left
    · cases he
      refine walk_out (x := .panic ch) (fun Q => by simp [go_sem, q1, q2, hs]; rfl) (seqK_panic ⟨rfl, rfl, .refl _⟩)
    split at h
    rotate_left
    · cases h
    rename_i k4
    refine walk (fun Q => by simp [go_sem, q1, q2, hs]; rfl) (seqK_normal ?_)
    obtain ⟨a, c, n, t, ro, mk, q1, q2, h⟩ := bindPtr_some h
    split at h
    rotate_left
    · cases h
    rename_i hk4
    have hk4 : 0 ≤ k4 ∧ k4 < 64 := by simpa using hk4
    split at h
    rotate_left
    · cases h
    rename_i S5 h5
    split at h
    rotate_left
    · cases h
    rename_i S6 h6
    cases h
    have h6 := putS_map h6
    simp [go_sem] at h5
    refine walk (fun Q => by simp [go_sem, q1, q2, hk4, h5, h6]; rfl) ?_
    exact ⟨rfl, [], rfl, rfl, .refl _⟩
  · cases h

end Go.Proofs.YtgdpedfahfmjeaaDoor

/-
  Rows of bytes: noughts behind them, bytes copied into them: what the operations come to, without looking at the bytes.
-/
namespace Go.Proofs.YtgdpedfahfmjeaaDoor
open Go Go.Vm

/-- are these places of a row known? -/
def knownB (c : Tr VV) : Nat → Nat → Bool
  | _, 0 => true
  | off, n + 1 => match c.get off with
    | some v => match v.one with
      | true => knownB c (off + 1) n
      | false => false
    | none => false

/-- what stands there -/
def rowD (c : Tr VV) (off n : Nat) : List VV := (List.range n).map fun i => (c.get (off + i)).getD .any

theorem rowD_length (c : Tr VV) (off n : Nat) : (rowD c off n).length = n := by simp [rowD]
theorem rowD_succ (c : Tr VV) (off n : Nat) : rowD c off (n + 1) = (c.get off).getD .any :: rowD c (off + 1) n := by
  simp only [rowD, List.range_succ_eq_map, List.map_cons, List.map_map, Nat.add_zero]
  congr 1
  refine List.map_congr_left fun i _ => ?_
  show (c.get (off + (i + 1))).getD .any = _
  rw [show off + (i + 1) = off + 1 + i by omega]

theorem knownB_spec {c : Tr VV} : ∀ {n off : Nat}, knownB c off n = true → c.row off n = some (rowD c off n) ∧ allOne (rowD c off n) = true
  | 0, _, _ => ⟨rfl, rfl⟩
  | n + 1, off, h => by
    simp only [knownB] at h
    split at h
    · rename_i v hv
      split at h
      · rename_i h1
        obtain ⟨q1, q2⟩ := knownB_spec h
        rw [rowD_succ]
        simp only [Tr.row, hv, q1, Option.getD_some, allOne, h1, q2, and_self]
      · cases h
    · cases h

def nought : List VV := [.int .u8 0]

theorem zeros_length (n : Nat) : (zerosV nought n).length = n := by simp [zerosV]
theorem zeros_one (n : Nat) : allOne (zerosV nought n) = true := by
  have key : ∀ l : List Nat, allOne (l.map fun i => nought.getD (i % nought.length) .any) = true := by
    intro l
    induction l with
    | nil => rfl
    | cons i l ih =>
      have : nought.getD (i % nought.length) .any = .int .u8 0 := by
        rw [show i % nought.length = 0 from Nat.mod_one i]; rfl
      simp only [List.map_cons, allOne, this, VV.one]
      exact ih
  exact key _

theorem allOne_app : ∀ {l m : List VV}, allOne l = true → allOne m = true → allOne (l ++ m) = true
  | [], _, _, h => h
  | v :: l, m, h1, h2 => by
    simp only [allOne, List.cons_append] at h1 ⊢
    split at h1
    · exact allOne_app h1 h2
    · cases h1

@[go_sem] theorem zero5 : zeroV Tryd.prog 5 = some (.int .u8 0) := by kernel_rfl
@[go_sem] theorem und23 : Tryd.prog.underlying 23 = some (.slice 5) := by kernel_rfl
@[go_sem] theorem size5 : sizeV Tryd.prog 5 = some 1 := by kernel_rfl
theorem bytes5 : bytesV Tryd.prog 5 = some 1 := by kernel_rfl
theorem zok5 : zeroOk Tryd.prog 5 (0 + 1) = true := by kernel_rfl
theorem und3 : Tryd.prog.underlying 3 = some (.int .i64) := by kernel_rfl

/-- noughts behind a slice -/
def growS (S : St) (sl : VV) (m : Nat) : Option (VV × St) := match sl with
  | .slice none 0 (.just 0) => some (.slice (some (S.nx, 0)) m (.rest 1), { h := S.h.set S.nx (.cells (Tr.ofList (zerosV nought m)) m 5 false false), nx := S.nx + 1 })
  | .slice (some (r, 0)) n (.rest 1) => match S.h.get r with
    | some (.cells c k _ false mk) => match Nat.beq k n, knownB c 0 n with
      | true, true => some (.slice (some (S.nx, 0)) (n + m) (.rest 1), { h := (S.h.del r).set S.nx (.cells (Tr.ofList (rowD c 0 n ++ zerosV nought m)) (n + m) 5 false mk), nx := S.nx + 1 })
      | _, _ => none
    | _ => none
  | _ => none

theorem appended5 (S : St) {m : Nat} (hm : m ≤ 1000000) : appendedV Tryd.prog S 3 5 (0 + 1) (.int .i64 ((m + 1 : Nat) : Int)) = some (zerosV nought (m + 1), m + 1) := by
  have hw : IntKind.i64.wrap ((m + 1 : Nat) : Int) = ((m + 1 : Nat) : Int) := wrap_in (by omega) (by omega)
  simp only [appendedV, und3, hw]
  rw [if_pos (by omega), show (((m + 1 : Nat) : Int)).toNat * (0 + 1) = m + 1 by omega]
  simp only [zeroRowV, zero5, cellsV, VV.one]
  rfl

theorem growS_append {S S' : St} {sl v : VV} {m : Nat} (hm : m ≤ 1000000) (hl : ∀ b n c, sl = .slice b n c → n ≤ 1000000) (h : growS S sl (m + 1) = some (v, S')) : appendV Tryd.prog S [23, 3] [sl, .int .i64 ((m + 1 : Nat) : Int)] = some (v, S') := by
  have hz1 := zeros_one (m + 1)
  have hz2 := zeros_length (m + 1)
  unfold growS at h
  split at h
  · cases h
    have hroom : roomV (0 + (m + 1)) 1 = true := by simp only [roomV, Bool.and_eq_true, Nat.ble_eq]; omega
    simp only [appendV, und23, size5, bytes5, zok5, appended5 S hm, hroom]
    simp [appendTo, newRowV_eq, hz1, hz2]
  · rename_i r n
    have hn := hl _ _ _ rfl
    split at h
    · rename_i c k t mk hr
      split at h
      · rename_i hk hkn
        cases h
        have hk : k = n := Nat.eq_of_beq_eq_true hk
        subst hk
        obtain ⟨q1, q2⟩ := knownB_spec hkn
        have hroom : roomV (k + (m + 1)) 1 = true := by simp only [roomV, Bool.and_eq_true, Nat.ble_eq]; omega
        have hone := allOne_app q2 hz1
        have hlen : (rowD c 0 k ++ zerosV nought (m + 1)).length = k + (m + 1) := by rw [List.length_append, rowD_length, hz2]
        simp only [appendV, und23, size5, bytes5, zok5, appended5 S hm, hroom]
        simp [appendTo, hr, q1, newRowV_eq, hone, hz2, rowD_length]
        intro q; omega
      · cases h
    · cases h
  · cases h

/-- so many bytes copied -/
def copyS (S : St) (dst src : Option (Nat × Nat)) (n : Nat) : Option St := match n with
  | 0 => some S
  | n + 1 => match dst, src with
    | some (r, off), some (q, off2) => match S.h.get q, S.h.get r with
      | some (.cells c2 _ _ _ _), some (.cells c k t false mk) => match knownB c2 off2 (n + 1), Nat.ble (off + (n + 1)) k with
        | true, true => some { h := S.h.set r (.cells (c.setAll off (rowD c2 off2 (n + 1))) k t false mk), nx := S.nx }
        | _, _ => none
      | _, _ => none
    | _, _ => none

theorem copyS_copy {S S' : St} {dst src : Option (Nat × Nat)} {dn sn : Nat} {dc sc : Cap} (h : copyS S dst src (Nat.min sn dn) = some S') :
    copyV Tryd.prog S [23, 23] [.slice dst dn dc, .slice src sn sc] = some (.int .i64 ((Nat.min sn dn : Nat) : Int), S') := by
  simp only [copyV, und23, size5, lenOfV]
  generalize Nat.min sn dn = n at h ⊢
  unfold copyS at h
  split at h
  · cases h
    have : firstV S 1 0 (.slice src sn sc) = some [] := by cases src <;> rfl
    simp only [this]
    cases dst with
    | none => rfl
    | some a => obtain ⟨r, off⟩ := a; rfl
  · rename_i n
    split at h
    · rename_i r off q off2
      split at h
      · rename_i c2 _ _ _ _ c k t mk hq hr
        split at h
        · rename_i hkn hle
          cases h
          obtain ⟨q1, q2⟩ := knownB_spec hkn
          have hlen := rowD_length c2 off2 (n + 1)
          simp only [firstV, Nat.mul_one, loadV, hq, q1]
          unfold storeV
          have hne : rowD c2 off2 (n + 1) = (c2.get off2).getD .any :: rowD c2 (off2 + 1) n := rowD_succ _ _ _
          rw [hne] at q2 hlen ⊢
          simp only [q2, hr, hlen, hle, Tr.with_eq]
        · cases h
      · cases h
    · cases h

/-- behind a place -/
theorem slice23_rest (r off n : Nat) {lo : Nat} (h : lo ≤ n) : sliceV Tryd.prog 23 (.slice (some (r, off)) n (.rest 1)) (some (.int .i64 (lo : Int))) none none = some (.slice (some (r, off + lo)) (n - lo) (.rest 1)) := by
  have hb : Nat.ble lo n = true := by rw [Nat.ble_eq]; exact h
  simp [sliceV, und23, size5, boundsV, optBoundV, boundV, hb]
theorem slice23_nil : sliceV Tryd.prog 23 (.slice none 0 (.just 0)) (some (.int .i64 ((0 : Nat) : Int))) none none = some (.slice none 0 (.just 0)) := by kernel_rfl

end Go.Proofs.YtgdpedfahfmjeaaDoor

/-
  What writing comes to (the closure that face does).
-/
namespace Go.Proofs.YtgdpedfahfmjeaaDoor
open Go Go.Vm

theorem bytes_same {args : List VV} {S S' : St} {e : En} (h : gBytes args S = some (e, S')) : S' = S := by
  unfold gBytes at h
  split at h
  · cases h; rfl
  · split at h
    · cases h; rfl
    · split at h
      · split at h
        · cases h; rfl
        · cases h
      · cases h
    · cases h
  · cases h

/-- of a slice: its length -/
def sizeS : VV → Option Nat
  | .slice _ n _ => some n
  | _ => none

def isSl : VV → Bool
  | .slice none 0 (.just 0) => true
  | .slice (some _) _ (.rest 1) => true
  | _ => false

def baseAt (sl : VV) (lo : Nat) : Option (Nat × Nat) := match sl with
  | .slice (some (r, off)) _ _ => some (r, off + lo)
  | _ => none

/-- one cell is set -/
def putC (S : St) (a k : Nat) (v : VV) : Option St := match S.h.get a with
  | some (.cells c n t false mk) => match Nat.ble (k + 1) n, v.one with
    | true, true => some { h := S.h.set a (.cells (c.set k v) n t false mk), nx := S.nx }
    | _, _ => none
  | _ => none

theorem growS_slice {S S' : St} {sl v : VV} {m : Nat} (h : growS S sl m = some (v, S')) : ∃ b n c, v = .slice b n c := by
  unfold growS at h
  split at h
  · cases h; exact ⟨_, _, _, rfl⟩
  · split at h
    · split at h
      · cases h; exact ⟨_, _, _, rfl⟩
      · cases h
    · cases h
  · cases h

theorem putC_store {S S' : St} {a k : Nat} {v : VV} {t : TypeId} (h : putC S a k v = some S') (hc : cellsV v = some [v]) (ht : sizeV Tryd.prog t = some 1) : storeVarV Tryd.prog S t (.ptr (some (a, k))) v = some (undefV, S') := by
  unfold putC at h
  split at h
  · rename_i c n t' mk hg
    split at h
    · rename_i hle hone
      cases h
      simp only [storeVarV, hc, ht, storeV, allOne, hone, hg, List.length_cons, List.length_nil, hle, Tr.with_eq, Tr.setAll]
      rfl
    · cases h
  · cases h

/-- what is copied where, and how much it was -/
def writeIn (S : St) (na no bb nb : Nat) (from_ : Nat) : Option St := match cellAt S na (no + 2), cellAt S bb 0 with
  | some sl, some (.slice bbase blen _) => match sizeS sl, isSl sl with
    | some n, true => match copyS S (baseAt sl (Nat.min from_ n)) bbase (Nat.min blen (n - Nat.min from_ n)) with
      | some S' => putC S' nb 0 (.int .i64 (Nat.min blen (n - Nat.min from_ n) : Nat))
      | none => none
    | _, _ => none
  | _, _ => none

/-- is there room? -/
def limitG (S : St) (fb nlen fin blen : Nat) : Option (En × St) := match blen with
  | 0 => some (.returned (.tuple []), S)
  | _ + 1 => bindPtr S fb fun a => match gBytes [.ptr (some a)] S with
    | some (.returned (.int .i64 (.ofNat c)), _) => match Nat.ble c 1000000, Nat.ble (c + (fin - nlen)) 4096 with
      | true, true => some (.returned (.tuple []), S)
      | true, false => some (.panicked (refusedV 28), S)
      | _, _ => none
    | _ => none

/-- noughts behind the file's end -/
def growG (S : St) (na no bb fin : Nat) : Option St := match cellAt S na (no + 2), cellAt S bb 0 with
  | some (.slice nb nn nc), some (.slice _ blen _) => match blen, fin - nn with
    | 0, _ => some S
    | _ + 1, 0 => some S
    | _ + 1, m + 1 => match Nat.ble m 1000000, Nat.ble nn 1000000, growS S (.slice nb nn nc) (m + 1) with
      | true, true, some (v, S') => putC S' na (no + 2) v
      | _, _, _ => none
  | _, _ => none

def fromG (flags : Int) (pos nlen : Nat) : Nat := match andI flags 32 == 0 with
  | true => pos
  | false => nlen

def gWrite : List VV → St → Option (En × St)
  | [.ptr (some (fb, 0)), .ptr (some (db, 0)), .ptr (some (bb, 0)), .ptr (some (nb, 0))], S => bindPtr S fb fun a => match cellAt S db 0 with
    | some (.int .i64 d) => bindG (gAt [.ptr (some a), .int .i64 d, .int .i64 2] S) fun t S1 => match t with
      | .tuple [.ptr (some (fa, fo)), .ptr (some (na, no))] => match cellAt S1 fa (fo + 3), cellAt S1 fa (fo + 2), cellAt S1 na (no + 2), cellAt S1 bb 0 with
        | some (.int .i64 (.ofNat pos)), some (.int .i64 flags), some (.slice nbase nlen ncap), some (.slice bbase blen bcap) => match Nat.ble pos 1000000, Nat.ble nlen 1000000, Nat.ble blen 1000000 with
          | true, true, true => bindG (limitG S1 fb nlen (fromG flags pos nlen + blen) blen) fun _ _ => match putC S1 fa (fo + 3) (.int .i64 (fromG flags pos nlen + blen : Nat)) with
            | some S2 => match growG S2 na no bb (fromG flags pos nlen + blen) with
              | some S4 => match writeIn S4 na no bb nb (fromG flags pos nlen) with
                | some S5 => some (.returned (.tuple []), S5)
                | none => none
              | none => none
            | none => none
          | _, _, _ => none
        | _, _, _, _ => none
      | _ => none
    | _ => none
  | _, _ => none

def maxI (a b : Int) : Int := if b > a then b else a
def minI (a b : Int) : Int := if b < a then b else a
@[go_sem] theorem max3 (S : St) (a b : Int) : builtinV Tryd.prog S .max [3, 3] [.int .i64 a, .int .i64 b] = some (.int .i64 (maxI a b), S) := rfl
@[go_sem] theorem min3 (S : St) (a b : Int) : builtinV Tryd.prog S .min [3, 3] [.int .i64 a, .int .i64 b] = some (.int .i64 (minI a b), S) := rfl

theorem limitG_some {S S' : St} {fb nlen fin blen : Nat} {e : En} (h : limitG S fb nlen fin blen = some (e, S')) : S' = S ∧ ((blen = 0 ∧ e = .returned (.tuple [])) ∨ (0 < blen ∧ ∃ a c n t ro mk cc, S.h.get fb = some (.cells c n t ro mk) ∧ c.get 0 = some (.ptr (some a)) ∧
    gBytes [.ptr (some a)] S = some (.returned (.int .i64 ((cc : Nat) : Int)), S) ∧ cc ≤ 1000000 ∧ ((cc + (fin - nlen) ≤ 4096 ∧ e = .returned (.tuple [])) ∨ (¬ cc + (fin - nlen) ≤ 4096 ∧ e = .panicked (refusedV 28))))) := by
  unfold limitG at h
  split at h
  · cases h; exact ⟨rfl, .inl ⟨rfl, rfl⟩⟩
  · obtain ⟨a, c, n, t, ro, mk, q1, q2, h⟩ := bindPtr_some h
    split at h
    · rename_i cc S2 hg
      have := bytes_same hg
      subst this
      split at h
      · rename_i h1 h2
        cases h
        exact ⟨rfl, .inr ⟨by omega, a, c, n, t, ro, mk, cc, q1, q2, hg, Nat.le_of_ble_eq_true h1, .inl ⟨Nat.le_of_ble_eq_true h2, rfl⟩⟩⟩
      · rename_i h1 h2
        cases h
        exact ⟨rfl, .inr ⟨by omega, a, c, n, t, ro, mk, cc, q1, q2, hg, Nat.le_of_ble_eq_true h1, .inr ⟨by rw [Bool.eq_false_iff, ne_eq, Nat.ble_eq] at h2; exact h2, rfl⟩⟩⟩
      · cases h
    · cases h

theorem keepB : ∀ (f : FuncId) (g : List VV → St → Option (En × St)) (args : List VV) (S : St) (e : En) (S' : St), (fun f : FuncId => Nat.beq f 14) f = true → ovH f = some g → g args S = some (e, S') → Grows S S' := by
  intro f g args S e S' hf hg h
  have : f = 14 := Nat.eq_of_beq_eq_true hf
  subst this
  rw [ovH14] at hg
  cases hg
  rw [bytes_same h]
  exact fun _ _ q => q

set_option maxRecDepth 10000 in
set_option maxHeartbeats 2000000 in
theorem write_T {args : List VV} {S S' : St} {e : En} (h : gWrite args S = some (e, S')) : Does Tryd.prog 33 args S e S' := by
  unfold gWrite at h
  split at h
  · rename_i fb db bb nb
    refine CallT.plain (R := fun e1 S1 => e1 = e ∧ Within S' S1) Tryd.func33 rfl ?_
    rw [frameV_eq, show Nat.max Tryd.f33.ntmps _ = 96 from rfl]
    simp only [tr_setAll_cons, tr_setAll_nil]
    refine CodeT.of_fresh fun hfr => ?_
    obtain ⟨a, c, n, t, ro, mk, q1, q2, h⟩ := bindPtr_some h
    split at h
    rotate_left
    · cases h
    rename_i d hd
    obtain ⟨c', n', t', ro', mk', q1', q2'⟩ := cellAt_some hd
    refine CodeT.seq (wp_sound baseH _ ?_)
    simp only [wp]
    obtain ⟨t2, S1, hs, h⟩ | ⟨ch, S1, hs, he⟩ := bindG_some h
    rotate_left
    · cases he
      exact walk_out (x := .panic ch) (fun Q => by simp [go_sem, q1, q2, q1', q2', hs]; rfl) ⟨rfl, rfl, .refl _⟩
    split at h
    rotate_left
    · cases h
    rename_i fa fo na no
    refine walk (fun Q => by simp [go_sem, q1, q2, q1', q2', hs]; rfl) ?_
    split at h
    rotate_left
    · cases h
    rename_i pos flags nbase nlen ncap bbase blen bcap hpos hflags hnode hb
    split at h
    rotate_left
    · cases h
    rename_i l1 l2 l3
    have l1 := Nat.le_of_ble_eq_true l1
    have l2 := Nat.le_of_ble_eq_true l2
    have l3 := Nat.le_of_ble_eq_true l3
    obtain ⟨cf, nf, tf, rf, mf, f1, f2⟩ := cellAt_some hpos
    obtain ⟨cf', nf', tf', rf', mf', f1', f3⟩ := cellAt_some hflags
    rw [f1] at f1'
    cases f1'
    obtain ⟨cn, nn, tn, rn, mn, n1, n2⟩ := cellAt_some hnode
    obtain ⟨cb, nb', tb, rb, mb, b1, b2⟩ := cellAt_some hb
    refine CodeT.seq (wp_sound baseH _ ?_)
    simp only [wp]
    refine walk (fun Q => by simp [go_sem, f1, f2]; rfl) ?_
    have hfrom : fromG flags pos nlen ≤ 1000000 := by unfold fromG; split <;> omega
    generalize hfm : fromG flags pos nlen = from_ at h hfrom
    refine CodeT.seq ?_
    refine CodeT.mono (Q := fun x fr' S' => x = .normal ∧ S' = S1 ∧
      fr' = ⟨(((((((Tr.nil.set 0 (.ptr (some (fb, 0)))).set 2 (.ptr (some (bb, 0)))).set 3 (.ptr (some (nb, 0)))).set 4 (.ptr (some (fa, fo)))).set 5 (.ptr (some (na, no)))).set 6 (.int .i64 (from_ : Nat)))), 96, [], none⟩) ?_ ?_
    · refine CodeT.post (fun x fr' S' => x = .normal ∧ S' = S1 ∧
        fr' = ⟨(((((((Tr.nil.set 0 (.ptr (some (fb, 0)))).set 2 (.ptr (some (bb, 0)))).set 3 (.ptr (some (nb, 0)))).set 4 (.ptr (some (fa, fo)))).set 5 (.ptr (some (na, no)))).set 6 (.int .i64 (from_ : Nat)))), 96, [], none⟩) ?_ (fun _ _ _ h => h)
      refine wp_sound baseH _ ?_
      simp only [wp]
      unfold fromG at hfm
      cases hfl : andI flags 32 == 0 with
      | true =>
        rw [hfl] at hfm
        subst hfm
        have hfl' : (andI flags 32 != 0) = false := by simp only [bne, hfl]; rfl
        refine walk (fun Q => by simp [go_sem, f1, f3, hfl']; rfl) (seqK_normal ?_)
        refine onBool_false (by simp [go_sem]) ?_
        exact ⟨_, _, frIn_set (frIn_set (frIn_set (frIn_set (frIn_set (frIn_set frIn_nil (by simp [go_sem])) (by simp [go_sem])) (by simp [go_sem])) (by simp [go_sem])) (by simp [go_sem])) (by simp [go_sem]), .refl _, trivial, rfl, rfl⟩
      | false =>
        rw [hfl] at hfm
        subst hfm
        have hfl' : (andI flags 32 != 0) = true := by simp only [bne, hfl]; rfl
        refine walk (fun Q => by simp [go_sem, f1, f3, hfl']; rfl) (seqK_normal ?_)
        refine onBool_true (by simp [go_sem]) ?_
        refine walk (fun Q => by simp [go_sem, n1, n2]; rfl) ?_
        exact ⟨_, _, frIn_set (frIn_set (frIn_set (frIn_set (frIn_set (frIn_set frIn_nil (by simp [go_sem])) (by simp [go_sem])) (by simp [go_sem])) (by simp [go_sem])) (by simp [go_sem])) (by simp [go_sem]), .refl _, rfl, rfl, rfl⟩
    rintro x fr' S2' ⟨rfl, hS2', rfl⟩
    rw [hS2']
    simp only []
    refine CodeT.seq (wp_sound baseH _ ?_)
    simp only [wp]
    obtain ⟨fin, hfin⟩ : ∃ fin, fin = from_ + blen := ⟨_, rfl⟩
    have hfin2 : fin ≤ 2000000 := by omega
    rw [← hfin] at h
    have hend : IntKind.i64.wrap ((from_ : Int) + (blen : Int)) = (fin : Int) := by rw [wrap_in (by omega) (by omega), hfin]; rfl
    refine walk (fun Q => by simp [go_sem, b1, b2, hend]; rfl) ?_
    obtain ⟨ext, hext⟩ : ∃ ext, ext = fin - nlen := ⟨_, rfl⟩
    have hm1 : IntKind.i64.wrap ((fin : Int) - (nlen : Int)) = (fin : Int) - nlen := wrap_in (by omega) (by omega)
    have hmx : maxI ((fin : Int) - nlen) 0 = (ext : Int) := by unfold maxI; split <;> omega
    refine CodeT.seq ?_
    obtain ⟨v, S1', hl, h⟩ | ⟨ch, S1', hl, he⟩ := bindG_some h
    rotate_left
    · cases he
      obtain ⟨hSS, ⟨_, q⟩ | ⟨hb0, a2, c2, n2', t2, ro2, mk2, cc, g1, g2, hgb, hcc, ⟨_, q⟩ | ⟨hlim, q⟩⟩⟩ := limitG_some hl
      · cases q
      · cases q
      · cases q
        subst hSS
        rw [← hext] at hlim
        have hadd : IntKind.i64.wrap ((cc : Int) + (ext : Int)) = (cc : Int) + ext := wrap_in (by omega) (by omega)
        have hl4 : (4096 : Int) < (cc : Int) + ext := by omega
        refine CodeT.draw baseH (keep := fun f => Nat.beq f 14) keepB (cl := [0, 1, 2, 3, 4, 6, 7, 8, 9, 10, 11, 12, 13, 5, 14, 15, 16, 17]) (by kernel_rfl) (by rfl) (by rfl) ?_
        refine walk_out (x := .panic (refusedV 28)) (fun Q => by simp [go_sem, b1, b2, hb0, g1, g2, n1, n2, hm1, hmx, hgb, hadd, hl4, gNo]; rfl) ?_
        exact panicAll_panic fun t => ⟨rfl, rfl, .refl _⟩
    have hv : S1' = S1 ∧ v = .tuple [] := by
      obtain ⟨hSS, ⟨_, q⟩ | ⟨hb0, a2, c2, n2', t2, ro2, mk2, cc, g1, g2, hgb, hcc, ⟨_, q⟩ | ⟨hlim, q⟩⟩⟩ := limitG_some hl <;> cases q <;> exact ⟨hSS, rfl⟩
    obtain ⟨hSS, rfl⟩ := hv
    rw [hSS] at hl
    refine CodeT.mono (Q := fun x fr' S' => x = .normal ∧ S' = S1 ∧
      fr' = ⟨(((((((Tr.nil.set 2 (.ptr (some (bb, 0)))).set 3 (.ptr (some (nb, 0)))).set 4 (.ptr (some (fa, fo)))).set 5 (.ptr (some (na, no)))).set 6 (.int .i64 (from_ : Nat)))).set 7 (.int .i64 (fin : Nat))), 96, [], none⟩) ?_ ?_
    · refine CodeT.post (fun x fr' S' => x = .normal ∧ S' = S1 ∧
        fr' = ⟨(((((((Tr.nil.set 2 (.ptr (some (bb, 0)))).set 3 (.ptr (some (nb, 0)))).set 4 (.ptr (some (fa, fo)))).set 5 (.ptr (some (na, no)))).set 6 (.int .i64 (from_ : Nat)))).set 7 (.int .i64 (fin : Nat))), 96, [], none⟩) ?_ (fun _ _ _ h => h)
      refine CodeT.draw baseH (keep := fun f => Nat.beq f 14) keepB (cl := [0, 1, 2, 3, 4, 6, 7, 8, 9, 10, 11, 12, 13, 5, 14, 15, 16, 17]) (by kernel_rfl) (by rfl) (by rfl) ?_
      obtain ⟨_, ⟨hb0, q⟩ | ⟨hb0, a2, c2, n2', t2, ro2, mk2, cc, g1, g2, hgb, hcc, ⟨hlim, q⟩ | ⟨hlim, q⟩⟩⟩ := limitG_some hl
      · refine walk (fun Q => by simp [go_sem, b1, b2, hb0, gNo]; rfl) (panicAll_normal ?_)
        exact ⟨_, _, frIn_set (frIn_set (frIn_set (frIn_set (frIn_set (frIn_set frIn_nil (by simp [go_sem])) (by simp [go_sem])) (by simp [go_sem])) (by simp [go_sem])) (by simp [go_sem])) (by simp [go_sem]), .refl _, rfl, rfl, rfl⟩
      · rw [← hext] at hlim
        have hadd : IntKind.i64.wrap ((cc : Int) + (ext : Int)) = (cc : Int) + ext := wrap_in (by omega) (by omega)
        have hl4 : ¬ (4096 : Int) < (cc : Int) + ext := by omega
        refine walk (fun Q => by simp [go_sem, b1, b2, hb0, g1, g2, n1, n2, hm1, hmx, hgb, hadd, hl4, gNo]; rfl) (panicAll_normal ?_)
        exact ⟨_, _, frIn_set (frIn_set (frIn_set (frIn_set (frIn_set (frIn_set frIn_nil (by simp [go_sem])) (by simp [go_sem])) (by simp [go_sem])) (by simp [go_sem])) (by simp [go_sem])) (by simp [go_sem]), .refl _, rfl, rfl, rfl⟩
      · cases q
    rintro x fr' S2' ⟨rfl, hS2', rfl⟩
    rw [hS2']
    simp only []
    split at h
    rotate_left
    · cases h
    rename_i S2 hS2
    split at h
    rotate_left
    · cases h
    rename_i S4 hS4
    split at h
    rotate_left
    · cases h
    rename_i S5 hS5
    cases h
    have hst2 := putC_store (t := 3) hS2 rfl size3
    refine CodeT.seq (wp_sound baseH _ ?_)
    simp only [wp]
    refine walk (fun Q => by simp [go_sem, hst2]; rfl) ?_
    -- noughts behind the end
    refine CodeT.seq ?_
    refine CodeT.mono (Q := fun x fr' S' => x = .normal ∧ S' = S4 ∧
      fr' = ⟨((((Tr.nil.set 2 (.ptr (some (bb, 0)))).set 3 (.ptr (some (nb, 0)))).set 5 (.ptr (some (na, no)))).set 6 (.int .i64 (from_ : Nat))), 96, [], none⟩) ?_ ?_
    · refine CodeT.post (fun x fr' S' => x = .normal ∧ S' = S4 ∧
        fr' = ⟨((((Tr.nil.set 2 (.ptr (some (bb, 0)))).set 3 (.ptr (some (nb, 0)))).set 5 (.ptr (some (na, no)))).set 6 (.int .i64 (from_ : Nat))), 96, [], none⟩) ?_ (fun _ _ _ h => h)
      unfold growG at hS4
      split at hS4
      rotate_left
      · cases hS4
      rename_i nb2 nn2 nc2 bb2 blen2 bc2 hn2 hb2
      obtain ⟨cn, nn, tn, rn, mn, n1, n2⟩ := cellAt_some hn2
      obtain ⟨cb, nb', tb, rb, mb, b1, b2⟩ := cellAt_some hb2
      refine wp_sound baseH _ ?_
      simp only [wp]
      split at hS4
      · cases hS4
        refine walk (fun Q => by simp [go_sem, b1, b2]; rfl) (seqK_normal ?_)
        refine onBool_false (by simp [go_sem]) ?_
        exact ⟨_, _, frIn_set (frIn_set (frIn_set (frIn_set frIn_nil (by simp [go_sem])) (by simp [go_sem])) (by simp [go_sem])) (by simp [go_sem]), .refl _, trivial, rfl, rfl⟩
      · rename_i bl hz
        cases hS4
        have hb0 : (0 : Int) < (bl : Int) + 1 := by omega
        have hgt : ¬ ((nn2 : Int) < (fin : Int)) := by omega
        have hgt' : ¬ (nn2 < fin) := by omega
        refine walk (fun Q => by simp [go_sem, b1, b2, n1, n2, hb0, hgt, hgt']; rfl) (seqK_normal ?_)
        refine onBool_false (by simp [go_sem]) ?_
        exact ⟨_, _, frIn_set (frIn_set (frIn_set (frIn_set frIn_nil (by simp [go_sem])) (by simp [go_sem])) (by simp [go_sem])) (by simp [go_sem]), .refl _, trivial, rfl, rfl⟩
      · rename_i bl m hz
        split at hS4
        rotate_left
        · cases hS4
        rename_i v S3 g1 g2 hg
        have g1 := Nat.le_of_ble_eq_true g1
        have g2 := Nat.le_of_ble_eq_true g2
        have hb0 : (0 : Int) < (bl : Int) + 1 := by omega
        have hgt : ((nn2 : Int) < (fin : Int)) := by omega
        have hgt' : (nn2 < fin) := by omega
        have happ := growS_append g1 (fun b n c e => by cases e; exact g2) hg
        have hms : IntKind.i64.wrap ((fin : Int) - (nn2 : Int)) = ((m + 1 : Nat) : Int) := by rw [wrap_in (by omega) (by omega)]; omega
        rw [show ((m + 1 : Nat) : Int) = (m : Int) + 1 by omega] at happ hms
        have hst4 := putC_store (t := 23) hS4 (by obtain ⟨b, n, c, rfl⟩ := growS_slice hg; rfl) size23
        refine walk (fun Q => by simp [go_sem, b1, b2, n1, n2, hb0, hgt, hgt']; rfl) (seqK_normal ?_)
        refine onBool_true (by simp [go_sem]) ?_
        refine CodeT.draw baseH (keep := fun _ => false) noKeep (cl := [0, 1, 2, 3, 4, 5, 6, 7, 8, 9, 10, 11, 12, 13, 14, 15]) (by kernel_rfl) (by rfl) (by rfl) ?_
        refine walk (fun Q => by simp [go_sem, n1, n2, hms, happ, hst4]; rfl) (panicAll_normal ?_)
        exact ⟨_, _, frIn_set (frIn_set (frIn_set (frIn_set frIn_nil (by simp [go_sem])) (by simp [go_sem])) (by simp [go_sem])) (by simp [go_sem]), .refl _, rfl, rfl, rfl⟩
    rintro x fr' S2' ⟨rfl, hS2', rfl⟩
    rw [hS2']
    simp only []
    unfold writeIn at hS5
    split at hS5
    rotate_left
    · cases hS5
    rename_i sl bbase2 blen2 bcap2 hn2 hb2
    split at hS5
    rotate_left
    · cases hS5
    rename_i n4 hsz hisl
    split at hS5
    rotate_left
    · cases hS5
    rename_i S5 hcp
    obtain ⟨cn, nn, tn, rn, mn, n1, n2⟩ := cellAt_some hn2
    obtain ⟨cb, nb', tb, rb, mb, b1, b2⟩ := cellAt_some hb2
    obtain ⟨sb, sc, rfl⟩ : ∃ sb sc, sl = .slice sb n4 sc := by
      cases sl <;> simp only [sizeS, Option.some.injEq, reduceCtorEq] at hsz
      subst hsz
      exact ⟨_, _, rfl⟩
    have hst5 := putC_store (t := 3) hS5 rfl size3
    have hmin : minI (from_ : Int) (n4 : Int) = ((Nat.min from_ n4 : Nat) : Int) := by
      unfold minI
      show _ = ((min from_ n4 : Nat) : Int)
      split <;> omega
    have hmle : Nat.min from_ n4 ≤ n4 := Nat.min_le_right _ _
    generalize hlo : Nat.min from_ n4 = lo at hcp hst5 hmin hmle hS5
    obtain ⟨dst, dc, hsl, hdst⟩ : ∃ dst dc, sliceV Tryd.prog 23 (.slice sb n4 sc) (some (.int .i64 (lo : Int))) none none = some (.slice dst (n4 - lo) dc) ∧ dst = baseAt (.slice sb n4 sc) lo := by
      unfold isSl at hisl
      split at hisl
      · rename_i e
        cases e
        have : lo = 0 := by omega
        subst this
        exact ⟨none, .just 0, slice23_nil, rfl⟩
      · rename_i x n' e
        cases e
        obtain ⟨r, off⟩ := x
        exact ⟨_, _, slice23_rest r off n4 hmle, rfl⟩
      · cases hisl
    subst hdst
    have hcopy := copyS_copy (dc := dc) (sc := bcap2) hcp
    generalize hcnt : Nat.min blen2 (n4 - lo) = cnt at hcopy hst5
    refine CodeT.draw baseH (keep := fun _ => false) noKeep (cl := [0, 1, 2, 3, 4, 5, 6, 7, 8, 9, 10, 11, 12, 13, 14]) (by kernel_rfl) (by rfl) (by rfl) ?_
    refine walk (fun Q => by simp [go_sem, n1, n2, b1, b2, hmin, hsl, hcopy, hst5]; rfl) (panicAll_normal ?_)
    exact ⟨rfl, [], rfl, rfl, .refl _⟩
  · cases h

end Go.Proofs.YtgdpedfahfmjeaaDoor

/-
  The two tables of unicode/utf8 in a virtual state, to be read only; closed runs from there.
-/
namespace Go.Proofs.YtgdpedfahfmjeaaDoor
open Go Go.Vm

/-- the two tables, to be read only -/
def tabsT : Tr VObj := ((Tr.nil.set 0 (.cells (Tr.ofList (firstL.map (.int .u8))) 256 5 true true)).set 1 (.cells (Tr.ofList (acceptL.map (.int .u8))) 32 5 true true))

theorem cell_row {w : World} {b k : Nat} {v : Value} (h : w.cell? ⟨b, k, none⟩ = some v) : ∃ cs t fr, w.heap[b]? = some (.cells cs t fr) ∧ cs[k]? = some v := by
  simp only [World.cell?] at h
  split at h
  · rename_i c t fr hb
    exact ⟨c, t, fr, hb, by simpa using h⟩
  · cases h

theorem tabs_rel {ρ : Go.Vm.Ren} {w : World} (hU : Lib.Utf8Tabs 0 1 w) {n0 n1 : Nat} (h0 : ∀ cs t fr, w.heap[0]? = some (.cells cs t fr) → cs.size = n0) (h1 : ∀ cs t fr, w.heap[1]? = some (.cells cs t fr) → cs.size = n1) (r0 : ρ 0 = some (0, 0, n0)) (r1 : ρ 1 = some (1, 0, n1)) :
    ∀ id o, tabsT.get id = some o → o.ro = true ∧ id < 2 ∧ ∃ r b n o', ρ id = some (r, b, n) ∧ w.heap[r]? = some o' ∧ ORel ρ b n o o' := by
  intro id o h
  have hl0 : firstL.length = 256 := by simp [firstL]
  have hl1 : acceptL.length = 32 := by simp [acceptL]
  simp only [tabsT, tr_get_set, Tr.get_nil] at h
  split at h
  · rename_i e
    subst e
    cases h
    obtain ⟨cs, t, fr, q1, _⟩ := cell_row (hU.2 0 (by omega)).1
    refine ⟨rfl, by omega, 1, 0, n1, _, r1, q1, ?_⟩
    have hsz := h1 _ _ _ q1
    have hat : ∀ i, i < 32 → ∃ v, acceptL[i]? = some v ∧ cs[i]? = some (.int .u8 v) := by
      intro i hi
      refine ⟨_, by simp only [acceptL, List.getElem?_map, List.getElem?_range hi, Option.map_some]; rfl, ?_⟩
      obtain ⟨a1, a2⟩ := hU.2 (i / 2) (by omega)
      rcases Nat.mod_two_eq_zero_or_one i with hm | hm
      · obtain ⟨cs', t', fr', q1', q2'⟩ := cell_row a1
        rw [q1] at q1'
        cases q1'
        rw [show 2 * (i / 2) = i by omega] at q2'
        rw [q2', hm]
        rfl
      · obtain ⟨cs', t', fr', q1', q2'⟩ := cell_row a2
        rw [q1] at q1'
        cases q1'
        rw [show 2 * (i / 2) + 1 = i by omega] at q2'
        rw [q2', hm]
        rfl
    refine ORel.cells (by omega) ?_ (fun i v hv => ?_) (fun i v hv => ?_) (by intro h; cases h) (by intro h; cases h)
    · obtain ⟨v, _, q⟩ := hat 31 (by omega)
      have := (Array.getElem?_eq_some_iff.1 q).1
      omega
    · rw [Tr.get_ofList] at hv
      have := (List.getElem?_eq_some_iff.1 hv).1
      rw [List.length_map, hl1] at this
      exact this
    · rw [Tr.get_ofList, List.getElem?_map] at hv
      obtain ⟨x, hx, rfl⟩ := Option.map_eq_some_iff.1 hv
      have hi : i < 32 := by
        have := (List.getElem?_eq_some_iff.1 hx).1
        omega
      obtain ⟨v, q1, q2⟩ := hat i hi
      rw [hx] at q1
      cases q1
      exact ⟨_, by rw [Nat.zero_add]; exact q2, .int _ _⟩
  · split at h
    · rename_i e
      subst e
      cases h
      obtain ⟨cs, t, fr, q1, _⟩ := cell_row (hU.1 0 (by omega))
      refine ⟨rfl, by omega, 0, 0, n0, _, r0, q1, ?_⟩
      have hsz := h0 _ _ _ q1
      have hat : ∀ i, i < 256 → ∃ v, firstL[i]? = some v ∧ cs[i]? = some (.int .u8 v) := by
        intro i hi
        refine ⟨_, by simp only [firstL, List.getElem?_map, List.getElem?_range hi, Option.map_some]; rfl, ?_⟩
        obtain ⟨cs', t', fr', q1', q2'⟩ := cell_row (hU.1 i hi)
        rw [q1] at q1'
        cases q1'
        exact q2'
      refine ORel.cells (by omega) ?_ (fun i v hv => ?_) (fun i v hv => ?_) (by intro h; cases h) (by intro h; cases h)
      · obtain ⟨v, _, q⟩ := hat 255 (by omega)
        have := (Array.getElem?_eq_some_iff.1 q).1
        omega
      · rw [Tr.get_ofList] at hv
        have := (List.getElem?_eq_some_iff.1 hv).1
        rw [List.length_map, hl0] at this
        exact this
      · rw [Tr.get_ofList, List.getElem?_map] at hv
        obtain ⟨x, hx, rfl⟩ := Option.map_eq_some_iff.1 hv
        have hi : i < 256 := by
          have := (List.getElem?_eq_some_iff.1 hx).1
          omega
        obtain ⟨v, q1, q2⟩ := hat i hi
        rw [hx] at q1
        cases q1
        exact ⟨_, by rw [Nat.zero_add]; exact q2, .int _ _⟩
    · cases h

/-- from a state in which the tables lie: no more than these, and given numbers to spare -/
theorem tabs_sim {S : St} {ρ : Go.Vm.Ren} {w : World} (hS : Sim Tryd.prog.globals.size ρ S w) (h : tabsB S = true) {N : Nat} (hN : S.nx ≤ N) : Sim Tryd.prog.globals.size ρ { h := tabsT, nx := N } w := by
  have hU := tabs_world hS h
  obtain ⟨n0, r0⟩ := hS.glob 0 (by rw [prog_size]; omega)
  obtain ⟨n1, r1⟩ := hS.glob 1 (by rw [prog_size]; omega)
  have size : ∀ g n, g < 2 → ρ g = some (g, 0, n) → (∃ c m t ro mk, S.h.get g = some (.cells c m t ro mk)) → ∀ cs t fr, w.heap[g]? = some (.cells cs t fr) → cs.size = n := by
    rintro g n hg hr ⟨c, m, t, ro, mk, hc⟩ cs t' fr hw
    obtain ⟨r, b, n', o', q1, q2, q3⟩ := hS.obj _ _ hc
    rw [hr] at q1
    cases q1
    rw [hw] at q2
    cases q2
    cases q3 with
    | cells hsize _ _ _ _ _ => omega
  have ht : (∃ c m t ro mk, S.h.get 0 = some (.cells c m t ro mk)) ∧ ∃ c m t ro mk, S.h.get 1 = some (.cells c m t ro mk) := by
    unfold tabsB at h
    split at h
    · rename_i h0 h1; exact ⟨⟨_, _, _, _, _, h0⟩, ⟨_, _, _, _, _, h1⟩⟩
    · cases h
  have key := tabs_rel hU (size 0 n0 (by omega) r0 ht.1) (size 1 n1 (by omega) r1 ht.2) r0 r1
  refine ⟨fun id o q => (key id o q).2.2, fun i j oi oj r b n b' n' qi qj hi hj => ?_, fun id q => hS.fresh id (by simp only at q; omega), hS.low, hS.glob⟩
  have li := (key _ _ qi).2.1
  have lj := (key _ _ qj).2.1
  have hi' : i = 0 ∨ i = 1 := by omega
  have hj' : j = 0 ∨ j = 1 := by omega
  rcases hi' with rfl | rfl <;> rcases hj' with rfl | rfl <;> simp_all

/-- from a world in which the tables lie -/
theorem tabs_init {w : World} (hU : Lib.Utf8Tabs 0 1 w) (hw : Tryd.prog.globals.size ≤ w.heap.size) : ∃ ρ, Sim Tryd.prog.globals.size ρ { h := tabsT, nx := 3 } w := by
  rw [prog_size] at hw ⊢
  obtain ⟨c0, t0, f0, a0, _⟩ := cell_row (hU.1 0 (by omega))
  obtain ⟨c1, t1, f1, a1, _⟩ := cell_row (hU.2 0 (by omega)).1
  let ρ : Go.Vm.Ren := fun id => if id = 0 then some (0, 0, c0.size) else if id = 1 then some (1, 0, c1.size) else if id = 2 then some (2, 0, 0) else none
  have key := tabs_rel (ρ := ρ) hU (n0 := c0.size) (n1 := c1.size) (fun cs t fr q => by rw [a0] at q; cases q; rfl) (fun cs t fr q => by rw [a1] at q; cases q; rfl) rfl rfl
  refine ⟨ρ, fun id o q => (key id o q).2.2, fun i j oi oj r b n b' n' qi qj hi hj => ?_, fun id q => ?_, fun id r b n q => ?_, fun g q => ?_⟩
  · have li := (key _ _ qi).2.1
    have lj := (key _ _ qj).2.1
    have hi' : i = 0 ∨ i = 1 := by omega
    have hj' : j = 0 ∨ j = 1 := by omega
    rcases hi' with rfl | rfl <;> rcases hj' with rfl | rfl
    · rfl
    · have e1 : some ((0 : Nat), (0 : Nat), c0.size) = some (r, b, n) := hi
      have e2 : some ((1 : Nat), (0 : Nat), c1.size) = some (r, b', n') := hj
      cases e1; cases e2
    · have e1 : some ((1 : Nat), (0 : Nat), c1.size) = some (r, b, n) := hi
      have e2 : some ((0 : Nat), (0 : Nat), c0.size) = some (r, b', n') := hj
      cases e1; cases e2
    · rfl
  · simp only at q
    simp only [ρ]
    rw [if_neg (by omega), if_neg (by omega), if_neg (by omega)]
  · simp only [ρ] at q
    split at q
    · cases q; omega
    · split at q
      · cases q; omega
      · split at q
        · cases q; omega
        · cases q
  · have : g = 0 ∨ g = 1 ∨ g = 2 := by omega
    rcases this with rfl | rfl | rfl
    · exact ⟨_, rfl⟩
    · exact ⟨_, rfl⟩
    · exact ⟨_, rfl⟩

/-- nothing that lies there is written -/
theorem tabs_wl {ρ : Go.Vm.Ren} {N r : Nat} : ¬ WL ρ { h := tabsT, nx := N } r := by
  rintro ⟨id, o, b, n, q, hro, _⟩
  simp only [tabsT, tr_get_set, Tr.get_nil] at q
  split at q
  · cases q; cases hro
  · split at q
    · cases q; cases hro
    · cases q

/-- a closed run that is true in every outcome, from the tables on -/
theorem tabs_true {ov : Ov} (ho : OvSound Tryd.prog ov) {n : Nat} {f : FuncId} (h : okTrue ((ev Tryd.prog ov n).call f [] none { h := tabsT, nx := 3 }) = true) {w : World} (hU : Lib.Utf8Tabs 0 1 w) (hw : Tryd.prog.globals.size ≤ w.heap.size) :
    Calls Tryd.prog f #[] w fun e w' => e = .returned (.bool true) ∧ w.keptBut w' (fun _ => False) := by
  obtain ⟨L, hL, hall⟩ := okTrue_spec h
  obtain ⟨ρ, hS⟩ := tabs_init hU hw
  refine (ev_calls mix noCount ho hL hS .nil).mono fun e w' => ?_
  rintro ⟨en, rc, S', ρ', h1, h2, h3⟩
  have he : en = .returned (.bool true) := hall _ h1
  subst he
  refine ⟨?_, h2.os, h2.output, fun i hi => ?_⟩
  · cases e with
    | returned v' => cases h3; rfl
    | _ => exact h3.elim
  · have hk := h2.keep i hi tabs_wl
    rw [hk]
    cases w.heap[i]? with
    | none => rfl
    | some o => cases o <;> simp

/-- every outcome is 'true', and no number above M is given -/
def okBelow (M : Nat) : Option CallR → Bool
  | some l => l.all fun x => (match x.1 with
    | .returned (.bool true) => true
    | _ => false) && Nat.ble x.2.2.nx M
  | none => false

theorem okBelow_spec {M : Nat} {x : Option CallR} (h : okBelow M x = true) : ∃ L, x = some L ∧ ∀ y ∈ L, y.1 = .returned (.bool true) ∧ y.2.2.nx ≤ M := by
  unfold okBelow at h
  cases x with
  | none => simp at h
  | some l =>
    refine ⟨l, rfl, fun y hy => ?_⟩
    have := List.all_eq_true.1 h y hy
    rw [Bool.and_eq_true, Nat.ble_eq] at this
    obtain ⟨e, rc, S⟩ := y
    refine ⟨?_, this.2⟩
    have := this.1
    cases e with
    | panicked ch => simp at this
    | returned v =>
      cases v with
      | bool b => cases b with
        | true => rfl
        | false => simp at this
      | _ => simp at this

/-- a closed run that is true in every outcome, in the midst of another: what lies there is forgotten -/
theorem tabs_fun {ov : Ov} (ho : OvSound Tryd.prog ov) {n N M : Nat} {f : FuncId} {fn : Func} (hf : Tryd.prog.funcs[f]? = some fn) (hb : fn.body.isSome = true) (h : okBelow M ((ev Tryd.prog ov n).call f [] none { h := tabsT, nx := N }) = true) {S : St} (ht : tabsB S = true) (hN : S.nx ≤ N) :
    FunT Tryd.prog f [] S fun e S' => e = .returned (.bool true) ∧ S' = { h := .nil, nx := M } := by
  obtain ⟨L, hL, hall⟩ := okBelow_spec h
  intro ρ w args' hS ha s hs c cs hc
  have hS0 := tabs_sim hS ht hN
  obtain ⟨e, S', ⟨h1, h1'⟩, ρ', w', h2, h3⟩ := (FunT.of_call (R := fun e S' => e = .returned (.bool true) ∧ S'.nx ≤ M) noCount hf hb (CallT.of_ev mix noCount ho hL (R := fun e _ S' => e = .returned (.bool true) ∧ S'.nx ≤ M) (fun y hy => hall y hy))) ρ w args' hS0 ha s hs c cs hc
  subst h1
  refine ⟨_, { h := .nil, nx := M }, ⟨rfl, rfl⟩, ρ', w', ?_, h3⟩
  have hsim : Sim Tryd.prog.globals.size ρ' { h := .nil, nx := M } w' := h2.sim.within ⟨fun id o q => by simp at q, h1'⟩
  exact ⟨h2.ext, hsim, h2.size, h2.output, h2.os, fun r hr _ => h2.keep r hr tabs_wl, fun r hr ⟨id, o, b, n, q, _⟩ => by simp at q, fun r hr ⟨id, o, b, n, q, _⟩ => by simp at q⟩

end Go.Proofs.YtgdpedfahfmjeaaDoor

/-
  What is proved: known (the rows of the document, over files of its own) answers true: by the kernel's evaluation of its run in the virtual semantics, with contracts in place of ramfs' inner functions. No condition but that the two tables of unicode/utf8 lie there.
-/
namespace Go.Proofs.YtgdpedfahfmjeaaDoor
open Go Go.Vm

def ovI : Ov := fun f => match f with
  | 35 => some gMkdir
  | 33 => some gWrite
  | f => ovH f
theorem ovI_sound : OvSound Tryd.prog ovI := by
  refine ovSound_of fun f g hf args S e S' hg => ?_
  unfold ovI at hf
  split at hf
  · cases hf; exact (mkdir_T hg).fun noCount Tryd.func35 rfl
  · cases hf; exact (write_T hg).fun noCount Tryd.func33 rfl
  · exact ovH_sound f g args S e S' hf hg

theorem run_known : okBelow 200000 ((ev Tryd.prog ovI 100000).call 5 [] none { h := tabsT, nx := 100000 }) = true := by kernel_rfl

/-- known, in the midst of a run: what lies there is forgotten -/
def gKnown : List VV → St → Option (En × St)
  | [], S => match tabsB S, Nat.ble S.nx 100000 with
    | true, true => some (.returned (.bool true), { h := .nil, nx := 200000 })
    | _, _ => none
  | _, _ => none

theorem known_T {args : List VV} {S S' : St} {e : En} (h : gKnown args S = some (e, S')) : FunT Tryd.prog 5 args S fun e1 S1 => e1 = e ∧ S1 = S' := by
  unfold gKnown at h
  split at h
  · split at h
    · rename_i ht hN
      cases h
      exact tabs_fun ovI_sound Tryd.func5 rfl run_known ht (Nat.le_of_ble_eq_true hN)
    · cases h
  · cases h

end Go.Proofs.YtgdpedfahfmjeaaDoor
