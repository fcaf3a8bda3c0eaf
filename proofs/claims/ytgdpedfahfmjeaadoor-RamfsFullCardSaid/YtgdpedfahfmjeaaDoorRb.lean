/-
  What is proved here: what ramfs' small functions come to (2): names, paths. No condition.
-/
import Derived.Test.YtgdpedfahfmjeaaDoorRa
import Derived.Shelf.Unicode.ValidAny
import Derived.Lib.RuneCount

/-
  What the small functions of ramfs come to (7): at, gone.
-/
namespace Go.Proofs.YtgdpedfahfmjeaaDoor
open Go Go.Vm

def ovC : Ov := fun f => match f with
  | 13 => some gNodes
  | 14 => some gBytes
  | 58 => some gLinks
  | 56 => some gContains
  | 30 => some gFree
  | f => ovB f

@[go_sem] theorem ovC13 : ovC 13 = some gNodes := rfl
@[go_sem] theorem ovC14 : ovC 14 = some gBytes := rfl
@[go_sem] theorem ovC58 : ovC 58 = some gLinks := rfl
@[go_sem] theorem ovC56 : ovC 56 = some gContains := rfl
@[go_sem] theorem ovC30 : ovC 30 = some gFree := rfl
@[go_sem] theorem ovC25 : ovC 25 = some gNo := rfl
@[go_sem] theorem ovC29 : ovC 29 = some gDir := rfl
@[go_sem] theorem ovC31 : ovC 31 = some gIdxFile := rfl
@[go_sem] theorem ovC40 : ovC 40 = some gThere := rfl

theorem ovC_sound : OvSound Tryd.prog ovC := by
  refine ovSound_of fun f g hf args S e S' hg => ?_
  unfold ovC at hf
  split at hf
  · cases hf; exact (nodes_T hg).fun noCount Tryd.func13 rfl
  · cases hf; exact (bytes_T hg).fun noCount Tryd.func14 rfl
  · cases hf; exact (links_T' hg).fun noCount Tryd.func58 rfl
  · cases hf; exact (contains_T hg).fun noCount Tryd.func56 rfl
  · cases hf; exact (free_T hg).fun noCount Tryd.func30 rfl
  · exact ovB_sound f g args S e S' hf hg

theorem baseC : Base Tryd.prog ovC := ⟨mix, noCount, ovC_sound⟩

def andI (a b : Int) : Int := IntKind.i64.wrap ((BitVec.ofInt 64 a &&& BitVec.ofInt 64 b).toNat : Int)
@[go_sem] theorem intOpV_and (a b : Int) : intOpV .and .i64 a b = some (.int .i64 (andI a b)) := rfl

theorem noKeep {ov : Ov} : ∀ (f : FuncId) (g : List VV → St → Option (En × St)) (args : List VV) (S : St) (e : En) (S' : St), (fun _ : FuncId => false) f = true → ov f = some g → g args S = some (e, S') → Grows S S' := fun _ _ _ _ _ _ h => by cases h

def gAt : List VV → St → Option (En × St)
  | [.ptr (some (a, 0)), .int .i64 d, .int .i64 flag], S => match decide (d < 0 ∨ 16 ≤ d) with
    | true => some (.panicked (refusedV 9), S)
    | false => match fileAt S a d.toNat with
      | some (o, nd, fl, _) => match o with
        | false => some (.panicked (refusedV 9), S)
        | true => match andI fl flag == flag with
          | false => some (.panicked (refusedV 9), S)
          | true => match decide (0 ≤ nd ∧ nd < 64) with
            | true => some (.returned (.tuple [.ptr (some (a, 192 + d.toNat * 4)), .ptr (some (a, nd.toNat * 3))]), S)
            | false => none
      | none => none
  | _, _ => none

set_option maxRecDepth 10000 in
set_option maxHeartbeats 1000000 in
theorem at_T {args : List VV} {S S' : St} {e : En} (h : gAt args S = some (e, S')) : Does Tryd.prog 34 args S e S' := by
  unfold gAt at h
  split at h
  · rename_i a d flag
    refine Does.of baseC Tryd.func34 rfl (n := 54) rfl fun hfr => ?_
    simp only [tr_setAll_cons, tr_setAll_nil, wp]
    refine walk (fun Q => by simp [go_sem]; rfl) (seqK_normal ?_)
    split at h
    · rename_i hd
      simp only [Option.some.injEq, Prod.mk.injEq] at h
      obtain ⟨rfl, rfl⟩ := h
      have hd : d < 0 ∨ 16 ≤ d := by simpa using hd
      by_cases h0 : d < 0
      · simp [go_sem, h0, gNo]
        exact seqK_panic ⟨rfl, rfl, .refl _⟩
      · have h1 : 16 ≤ d := by omega
        simp [go_sem, h0, h1, gNo]
        exact seqK_panic ⟨rfl, rfl, .refl _⟩
    · rename_i hd
      have hd : ¬ (d < 0 ∨ 16 ≤ d) := by simpa using hd
      have h0 : (d < 0) = False := by simp; omega
      have h1 : (16 ≤ d) = False := by simp; omega
      have h2 : 0 ≤ d := by omega
      have h3 : d < 16 := by omega
      split at h
      · rename_i o nd fl ps hf
        obtain ⟨c, n, t, ro, mk, q1, q2, q3, q4, q5⟩ := fileAt_some hf
        cases o with
        | false =>
          simp only [Option.some.injEq, Prod.mk.injEq] at h
          obtain ⟨rfl, rfl⟩ := h
          simp [go_sem, h0, h1, h2, h3, q1, q2, gNo]
          exact seqK_panic ⟨rfl, rfl, .refl _⟩
        | true =>
          simp only at h
          cases hfl : andI fl flag == flag with
          | false =>
            simp only [hfl, Option.some.injEq, Prod.mk.injEq] at h
            obtain ⟨rfl, rfl⟩ := h
            have hfl' : (andI fl flag != flag) = true := by simp only [bne, hfl]; rfl
            simp [go_sem, h0, h1, h2, h3, q1, q2, q4, hfl', gNo]
            exact seqK_panic ⟨rfl, rfl, .refl _⟩
          | true =>
            simp only [hfl] at h
            have hfl' : (andI fl flag != flag) = false := by simp only [bne, hfl]; rfl
            split at h
            · rename_i hnd
              simp only [Option.some.injEq, Prod.mk.injEq] at h
              obtain ⟨rfl, rfl⟩ := h
              have hnd : 0 ≤ nd ∧ nd < 64 := by simpa using hnd
              refine walk (fun Q => by simp [go_sem, h0, h1, h2, h3, q1, q2, q4, hfl', gNo]; rfl) (seqK_normal ?_)
              refine CodeT.draw baseC (keep := fun _ => false) noKeep (cl := [0, 1, 2, 3, 4, 5, 6, 7, 8, 9, 10, 11, 12, 13, 14, 15, 16, 17]) (by kernel_rfl) (by rfl) (by rfl) ?_
              refine walk (fun Q => by simp [go_sem, h2, h3, q1, q3, hnd]; rfl) (panicAll_normal (seqK_normal ?_))
              exact ⟨rfl, [.ptr (some (a, 192 + d.toNat * 4)), .ptr (some (a, nd.toNat * 3))], by show resultsV _ _ _ [ResultVar.tmp 6, ResultVar.tmp 7] = _; simp [resultsV, go_sem], rfl, .refl _⟩
            · cases h
      · cases h
  · cases h

end Go.Proofs.YtgdpedfahfmjeaaDoor

/-
  What the small functions of ramfs come to (8): what is read holds in a memory that has grown; gone.
-/
namespace Go.Proofs.YtgdpedfahfmjeaaDoor
open Go Go.Vm

theorem cellAt_mono {S S' : St} (h : Grows S S') {a k : Nat} {v : VV} (hv : cellAt S a k = some v) : cellAt S' a k = some v := by
  obtain ⟨c, n, t, ro, mk, h1, h2⟩ := cellAt_some hv
  simp only [cellAt, h a _ h1, h2]
theorem nodeAt_mono {S S' : St} (h : Grows S S') {a k : Nat} {x : Bool × Option Nat × VV} (hx : nodeAt S a k = some x) : nodeAt S' a k = some x := by
  obtain ⟨b, m, s⟩ := x
  obtain ⟨c, n, t, ro, mk, q1, q2, q3, q4, q5⟩ := nodeAt_some hx
  simp only [nodeAt, cellAt, h a _ q1, q2, q3, q4, q5]
theorem fileAt_mono {S S' : St} (h : Grows S S') {a k : Nat} {x : Bool × Int × Int × Int} (hx : fileAt S a k = some x) : fileAt S' a k = some x := by
  obtain ⟨o, nd, fl, ps⟩ := x
  obtain ⟨c, n, t, ro, mk, q1, q2, q3, q4, q5⟩ := fileAt_some hx
  simp only [fileAt, cellAt, h a _ q1, q2, q3, q4, q5]
theorem firstFile_mono {S S' : St} (h : Grows S S') {a : Nat} {test : Bool → Int → Bool} : ∀ {n k : Nat} {r : Option Nat}, firstFile S a test n k = some r → firstFile S' a test n k = some r
  | 0, _, _, hr => hr
  | n + 1, k, r, hr => by
    simp only [firstFile] at hr ⊢
    split at hr
    · rename_i o nd fl ps hf
      rw [fileAt_mono h hf]
      simp only []
      split at hr
      · exact hr
      · exact firstFile_mono h hr
    · cases hr
theorem firstFree_mono {S S' : St} (h : Grows S S') {a : Nat} : ∀ {n k : Nat} {r : Option Nat}, firstFree S a n k = some r → firstFree S' a n k = some r
  | 0, _, _, hr => hr
  | n + 1, k, r, hr => by
    simp only [firstFree] at hr ⊢
    split at hr
    · rename_i hf; rw [nodeAt_mono h hf]; exact hr
    · rename_i hf; rw [nodeAt_mono h hf]; exact firstFree_mono h hr
    · cases hr
theorem countIs_mono {S S' : St} (h : Grows S S') {a : Nat} : ∀ {n k c : Nat}, countIs S a n k = some c → countIs S' a n k = some c
  | 0, _, _, hr => hr
  | n + 1, k, c, hr => by
    simp only [countIs] at hr ⊢
    split at hr
    · rename_i b c' h1 h2; rw [cellAt_mono h h1, countIs_mono h h2]; exact hr
    · cases hr
theorem sumLen_mono {S S' : St} (h : Grows S S') {a : Nat} : ∀ {n k c : Nat}, sumLen S a n k = some c → sumLen S' a n k = some c
  | 0, _, _, hr => hr
  | n + 1, k, c, hr => by
    simp only [sumLen] at hr ⊢
    split at hr
    · rename_i b m cap c' h1 h2; rw [cellAt_mono h h1, sumLen_mono h h2]; exact hr
    · cases hr
theorem namesOk_mono {S S' : St} (h : Grows S S') {a : Nat} : ∀ {n k : Nat}, namesOk S a n k = true → namesOk S' a n k = true
  | 0, _, hr => hr
  | n + 1, k, hr => by
    simp only [namesOk] at hr ⊢
    split at hr
    · rename_i b m s hn
      rw [nodeAt_mono h hn]
      simp only [Bool.and_eq_true] at hr ⊢
      refine ⟨?_, namesOk_mono h hr.2⟩
      have h1 := hr.1
      cases m with
      | none => rfl
      | some r =>
        simp only at h1 ⊢
        split at h1
        · rename_i es clk hq; rw [h r _ hq]; exact h1
        · cases h1
    · cases hr
theorem esOf_mono {S S' : St} (h : Grows S S') {a : Nat} (hn : namesOk S a 64 0 = true) {i : Nat} (hi : i < 64) : esOf S' a i = esOf S a i := by
  obtain ⟨b, m, s, h1, h2⟩ := namesOk_spec hn i (by omega) (by omega)
  have h1' := nodeAt_mono h h1
  have key : ∀ S, nodeAt S a i = some (b, m, s) → mapOf S a i = m := fun S q => by
    obtain ⟨c, n, t, ro, mk, q1, q2, q3, q4, q5⟩ := nodeAt_some q
    simp [mapOf, cellAt, q1, q3]
  simp only [esOf, key S h1, key S' h1']
  cases m with
  | none => rfl
  | some r =>
    obtain ⟨es, clk, h3, _⟩ := h2 r rfl
    simp only [h3, h r _ h3]
theorem tot_congr {n : Int} {es es' : Nat → List (VV × VV × Nat)} : ∀ {k : Nat}, (∀ i, i < k → es i = es' i) → tot n es k = tot n es' k
  | 0, _ => rfl
  | k + 1, h => by simp only [tot, h k (by omega)]; rw [tot_congr fun i hi => h i (by omega)]
theorem tot_mono {S S' : St} (h : Grows S S') {a : Nat} (hn : namesOk S a 64 0 = true) (n : Int) : tot n (esOf S' a) 64 = tot n (esOf S a) 64 := tot_congr fun _ hi => esOf_mono h hn hi

theorem grows_new {S : St} (hfr : Fresh S) (o : VObj) (n : Nat) : Grows S { h := S.h.set S.nx o, nx := n } := fun id x q => by
  have := hfr id x q
  simp only [tr_get_set]
  rw [if_neg (by omega)]
  exact q
theorem grows_up (S : St) (n : Nat) : Grows S (S.up n) := fun _ _ q => q
theorem Grows.trans' {S S' S'' : St} (h : Grows S S') (h' : Grows S' S'') : Grows S S'' := fun id o q => h' id o (h id o q)

/-- a node that is none -/
def noNode : List VV := [.bool false, .map none, .slice none 0 (.just 0)]

/-- a row's cells are turned -/
def setRow (S : St) (a k : Nat) (vs : List VV) (n : Nat) : Option St := match S.h.get a with
  | some (.cells c m t false mk) => match Nat.ble (k + vs.length) m with
    | true => some { h := S.h.set a (.cells (c.setAll k vs) m t false mk), nx := S.nx + n }
    | false => none
  | _ => none

def gGone : List VV → St → Option (En × St)
  | [.ptr (some (a, 0)), .int .i64 n], S => match firstFile S a (leads n) 16 0, namesOk S a 64 0 with
    | some r, true => match decide (0 < n ∧ r = none ∧ IntKind.i64.wrap (tot n (esOf S a) 64 : Nat) = 0) with
      | true => match decide (n < 64), setRow S a (n.toNat * 3) noNode 200 with
        | true, some S' => some (.returned (.tuple []), S')
        | _, _ => none
      | false => some (.returned (.tuple []), S.up 200)
    | _, _ => none
  | _, _ => none

theorem setRow_spec {S S' : St} {a k n : Nat} {vs : List VV} (h : setRow S a k vs n = some S') : ∃ c m t mk, S.h.get a = some (.cells c m t false mk) ∧ k + vs.length ≤ m ∧ S' = { h := S.h.set a (.cells (c.setAll k vs) m t false mk), nx := S.nx + n } := by
  unfold setRow at h
  split at h
  · rename_i c m t mk hc
    split at h
    · rename_i hle
      simp only [Option.some.injEq] at h
      exact ⟨c, m, t, mk, hc, Nat.le_of_ble_eq_true hle, h.symm⟩
    · cases h
  · cases h

@[go_sem] theorem tr_ofList {α : Type} (l : List α) : Tr.ofList l = Tr.setAll .nil 0 l := rfl
@[go_sem] theorem up_h (S : St) (n : Nat) : (S.up n).h = S.h := rfl
@[go_sem] theorem up_nx (S : St) (n : Nat) : (S.up n).nx = S.nx + n := rfl
@[go_sem] theorem build51_0 : buildV Tryd.prog 51 [] = some (.agg [.bool false, .map none, .slice none 0 (.just 0)]) := by kernel_rfl

set_option maxRecDepth 10000 in
set_option maxHeartbeats 1000000 in
theorem gone_T {args : List VV} {S S' : St} {e : En} (h : gGone args S = some (e, S')) : Does Tryd.prog 39 args S e S' := by
  unfold gGone at h
  split at h
  · rename_i a n
    split at h
    · rename_i r hf hnm
      refine Does.of baseC Tryd.func39 rfl (n := 29) rfl fun hfr => ?_
      simp only [tr_setAll_cons, tr_setAll_nil, wp]
      have hgr : Grows S { h := S.h.set S.nx (.cells (Tr.nil.set 0 (.int .i64 n)) 1 3 false false), nx := S.nx + 1 } := grows_new hfr _ _
      have hcon : gContains [.slice (some (a, 192)) 16 (.just 16), .func (.func 57) [] [.ptr (some (S.nx, 0))]] { h := S.h.set S.nx (.cells (Tr.nil.set 0 (.int .i64 n)) 1 3 false false), nx := S.nx + 1 } =
          some (.returned (.bool r.isSome), ({ h := S.h.set S.nx (.cells (Tr.nil.set 0 (.int .i64 n)) 1 3 false false), nx := S.nx + 1 } : St).up 16) := by
        have h1 : cellAt { h := S.h.set S.nx (.cells (Tr.nil.set 0 (.int .i64 n)) 1 3 false false), nx := S.nx + 1 } S.nx 0 = some (.int .i64 n) := by simp [cellAt, go_sem]
        simp only [gContains, h1, firstFile_mono hgr hf]
      have hlk : gLinks [.ptr (some (a, 0)), .int .i64 n] (({ h := S.h.set S.nx (.cells (Tr.nil.set 0 (.int .i64 n)) 1 3 false false), nx := S.nx + 1 } : St).up 16) =
          some (.returned (.int .i64 (IntKind.i64.wrap (tot n (esOf S a) 64 : Nat))), (({ h := S.h.set S.nx (.cells (Tr.nil.set 0 (.int .i64 n)) 1 3 false false), nx := S.nx + 1 } : St).up 16).up 128) := by
        have hg2 : Grows S (({ h := S.h.set S.nx (.cells (Tr.nil.set 0 (.int .i64 n)) 1 3 false false), nx := S.nx + 1 } : St).up 16) := Grows.trans' hgr (grows_up _ _)
        simp only [gLinks, namesOk_mono hg2 hnm, tot_mono hg2 hnm]
      refine walk (fun Q => by simp [go_sem]; rfl) (seqK_normal ?_)
      refine walk (fun Q => by simp [go_sem, hcon]; rfl) (seqK_normal ?_)
      -- what is left is as it was
      have fin : ∀ N, N ≤ S.nx + 200 → Within (S.up 200) { h := S.h.set S.nx (.cells (Tr.nil.set 0 (.int .i64 n)) 1 3 false false), nx := N } := fun N hN =>
        within_of (fun id o q => by have := hfr id o q; simp [go_sem, q]; omega) hN
      by_cases hn : 0 < n
      · cases r with
        | some j =>
          simp only [reduceCtorEq, false_and, and_false, decide_false, Option.some.injEq, Prod.mk.injEq] at h
          obtain ⟨rfl, rfl⟩ := h
          refine walk (fun Q => by simp [go_sem, hn]; rfl) (seqK_normal ?_)
          refine onBool_false (by simp [go_sem]) ⟨rfl, [], rfl, rfl, fin _ (by show S.nx + 1 + 16 ≤ S.nx + 200; omega)⟩
        | none =>
          by_cases hw : IntKind.i64.wrap (tot n (esOf S a) 64 : Nat) = 0
          · simp only [hn, hw, and_self, decide_true] at h
            split at h
            · rename_i S2 h64 hset
              simp only [Option.some.injEq, Prod.mk.injEq] at h
              obtain ⟨rfl, rfl⟩ := h
              have h64 : n < 64 := by simpa using h64
              have h0 : 0 ≤ n := by omega
              obtain ⟨c, m, t, mk, hc, hle, rfl⟩ := setRow_spec hset
              have hle' : n.toNat * 3 + 3 ≤ m := hle
              have han : a ≠ S.nx := fun q => by have := hfr a _ hc; omega
              refine walk (fun Q => by simp [go_sem, hn, hlk, hw]; rfl) (seqK_normal ?_)
              refine onBool_true (by simp [go_sem]) ?_
              refine CodeT.draw baseC (keep := fun _ => false) noKeep (cl := [0, 1, 2, 3, 4, 5, 6]) (by kernel_rfl) (by rfl) (by rfl) ?_
              refine walk (fun Q => by simp [go_sem, h0, h64, hc, han, hle']; rfl) (panicAll_normal ?_)
              refine ⟨rfl, [], rfl, rfl, within_of (fun id o q => ?_) (by show S.nx + 1 + 16 + 128 ≤ S.nx + 200; omega)⟩
              simp only [noNode, tr_setAll_cons, tr_setAll_nil, tr_get_set] at q ⊢
              by_cases e : id = a
              · simpa [e] using q
              · rw [if_neg e] at q ⊢
                have := hfr id o q
                rw [if_neg (by omega)]
                exact q
            · cases h
          · simp only [hw, and_false, decide_false, Option.some.injEq, Prod.mk.injEq] at h
            obtain ⟨rfl, rfl⟩ := h
            have hw' : (IntKind.i64.wrap (tot n (esOf S a) 64 : Nat) == 0) = false := by simpa using hw
            refine walk (fun Q => by simp [go_sem, hn, hlk, hw']; rfl) (seqK_normal ?_)
            refine onBool_false (by simp [go_sem]) ⟨rfl, [], rfl, rfl, fin _ (by show S.nx + 1 + 16 + 128 ≤ S.nx + 200; omega)⟩
      · simp only [hn, false_and, decide_false, Option.some.injEq, Prod.mk.injEq] at h
        obtain ⟨rfl, rfl⟩ := h
        refine walk (fun Q => by simp [go_sem, hn]; rfl) (seqK_normal ?_)
        refine onBool_false (by simp [go_sem]) ⟨rfl, [], rfl, rfl, fin _ (by show S.nx + 1 + 16 ≤ S.nx + 200; omega)⟩
    · cases h
  · cases h

end Go.Proofs.YtgdpedfahfmjeaaDoor

/-
  What the small functions of ramfs come to (9): walk, must.
-/
namespace Go.Proofs.YtgdpedfahfmjeaaDoor
open Go Go.Vm

@[go_sem] theorem agg9 : isAggV Tryd.prog 9 = some false := by kernel_rfl
@[go_sem] theorem size9 : sizeV Tryd.prog 9 = some 1 := by kernel_rfl
@[go_sem] theorem len48 (S : St) (a : Option (Nat × Nat)) (n : Nat) (c : Cap) : lenV Tryd.prog S [48] [.slice a n c] = some (.int .i64 n) := by kernel_rfl
@[go_sem] theorem ia48 (a : Nat × Nat) (len : Nat) (cap : Cap) (i : Int) : indexAddrV Tryd.prog 48 (.slice (some a) len cap) (.int .i64 i) = if 0 ≤ i ∧ i < len then some (.ptr (some (a.1, a.2 + i.toNat * 1))) else none := ia_slice (e := 9) (by kernel_rfl) (by kernel_rfl) a len cap i

/-- a row of strings -/
def strsAt (S : St) (r : Nat) : Nat → Nat → Option (List (List UInt8))
  | _, 0 => some []
  | off, n + 1 => match cellAt S r off, strsAt S r (off + 1) n with
    | some (.str s), some l => some (s :: l)
    | _, _ => none
def strsOf (S : St) : VV → Option (List (List UInt8))
  | .slice none 0 _ => some []
  | .slice (some (r, off)) n _ => strsAt S r off n
  | _ => none

theorem strsAt_length {S : St} {r : Nat} : ∀ {n off : Nat} {l : List (List UInt8)}, strsAt S r off n = some l → l.length = n
  | 0, _, _, h => by simp only [strsAt, Option.some.injEq] at h; subst h; rfl
  | n + 1, off, l, h => by
    simp only [strsAt] at h
    split at h
    · rename_i s l' h1 h2
      simp only [Option.some.injEq] at h
      subst h
      simp [strsAt_length h2]
    · cases h

/-- what a name leads to -/
def findS (s : List UInt8) : List (VV × VV × Nat) → Option (Option VV)
  | [] => some none
  | (k, v, _) :: es => match k with
    | .str s' => match strEq s s' with
      | true => some (some v)
      | false => findS s es
    | _ => none

theorem eq9 (S : St) (s s' : List UInt8) : eqV Tryd.prog S eqDepth 9 (.str s) (.str s') = some (strEq s s') := by
  have hu : Tryd.prog.underlying 9 = some .string := by kernel_rfl
  show eqV Tryd.prog S (9999 + 1) 9 (.str s) (.str s') = _
  simp only [eqV, hu]

theorem findV_S (S : St) (s : List UInt8) : ∀ (es : List (VV × VV × Nat)) (i : Nat) (x : Option VV), findS s es = some x → match x with
    | some v => ∃ j b, findV Tryd.prog S 9 (.str s) es i = some (some (j, v, b)) ∧ ∃ k, i ≤ j ∧ es[j - i]? = some (.str k, v, b) ∧ strEq s k = true
    | none => findV Tryd.prog S 9 (.str s) es i = some none
  | [], i, x, h => by simp only [findS, Option.some.injEq] at h; subst h; rfl
  | (k, v, b) :: es, i, x, h => by
    simp only [findS] at h
    split at h
    · rename_i s'
      cases hq : strEq s s' with
      | true =>
        simp only [hq, Option.some.injEq] at h
        subst h
        exact ⟨i, b, by simp only [findV, eq9, hq], s', Nat.le_refl _, by simp, hq⟩
      | false =>
        simp only [hq] at h
        have ih := findV_S S s es (i + 1) x h
        cases x with
        | none => simp only [findV, eq9, hq]; exact ih
        | some u =>
          obtain ⟨j, b', h1, k, h2, h3, h4⟩ := ih
          refine ⟨j, b', by simp only [findV, eq9, hq]; exact h1, k, by omega, ?_, h4⟩
          rw [show j - i = (j - (i + 1)) + 1 by omega]
          simpa using h3
    · cases h

theorem keyOk9 (s : List UInt8) : keyOk Tryd.prog 9 (.str s) = true := by kernel_rfl
theorem zero3 : zeroV Tryd.prog 3 = some (.int .i64 0) := by kernel_rfl

theorem lookup49_in {S : St} {r : Nat} {es : List (VV × VV × Nat)} {clk : Nat} {s : List UInt8} {v : VV} (h : S.h.get r = some (.map es clk)) (hf : findS s es = some (some v)) : lookupV Tryd.prog S 49 (.map (some r)) (.str s) true = some (.tuple [v, .bool true]) := by
  obtain ⟨j, b, h1, _⟩ := findV_S S s es 0 _ hf
  simp only [lookupV, und49, keyOk9, mapOfV, h, h1, if_true]
theorem lookup49_out {S : St} {r : Nat} {es : List (VV × VV × Nat)} {clk : Nat} {s : List UInt8} (h : S.h.get r = some (.map es clk)) (hf : findS s es = some none) : lookupV Tryd.prog S 49 (.map (some r)) (.str s) true = some (.tuple [.int .i64 0, .bool false]) := by
  have h1 := findV_S S s es 0 _ hf
  simp only at h1
  simp only [lookupV, und49, keyOk9, mapOfV, h, h1, zero3, if_true]

/-- from a node on, by names -/
def walkG (S : St) (a : Nat) : List (List UInt8) → Int → Option En
  | [], cur => some (.returned (.int .i64 cur))
  | s :: rest, cur => match decide (0 ≤ cur ∧ cur < 64), cellAt S a (cur.toNat * 3 + 1) with
    | true, some (.map none) => some (.panicked (refusedV 20))
    | true, some (.map (some r)) => match S.h.get r with
      | some (.map es _) => match findS s es with
        | some (some v) => match v with
          | .int .i64 next => walkG S a rest next
          | _ => none
        | some none => match rest with
          | [] => some (.returned (.int .i64 (-1)))
          | _ :: _ => some (.panicked (refusedV 2))
        | none => none
      | _ => none
    | _, _ => none

def gWalk : List VV → St → Option (En × St)
  | [.ptr (some (a, 0)), sl], S => match strsOf S sl with
    | some names => match Nat.ble names.length 1000000, walkG S a names 0 with
      | true, some e => some (e, S)
      | _, _ => none
    | none => none
  | _, _ => none

set_option maxRecDepth 10000 in
set_option maxHeartbeats 1000000 in
theorem walk_T {args : List VV} {S S' : St} {e : En} (h : gWalk args S = some (e, S')) : Does Tryd.prog 28 args S e S' := by
  unfold gWalk at h
  split at h
  · rename_i a sl
    cases hs : strsOf S sl with
    | none => simp [hs] at h
    | some names =>
      cases hw : walkG S a names 0 with
      | none => simp [hs, hw] at h
      | some e0 =>
        cases hsm : Nat.ble names.length 1000000 with
        | false => simp [hs, hw, hsm] at h
        | true =>
        simp only [hs, hw, hsm, Option.some.injEq, Prod.mk.injEq] at h
        obtain ⟨rfl, rfl⟩ := h
        refine Does.of baseC Tryd.func28 rfl (n := 53) rfl fun hfr => ?_
        simp only [tr_setAll_cons, tr_setAll_nil, wp]
        refine walk (fun Q => by simp [go_sem]; rfl) (seqK_normal ?_)
        refine walk (fun Q => by simp [go_sem]; rfl) (seqK_normal ?_)
        unfold strsOf at hs
        split at hs
        · -- nil
          simp only [Option.some.injEq] at hs
          subst hs
          simp only [walkG, Option.some.injEq] at hw
          subst hw
          refine walk (fun Q => by simp [go_sem]; rfl) (seqK_normal ?_)
          refine CodeT.loop (wp_sound baseC _ ?_)
          simp only [wp]
          refine walk (fun Q => by simp [go_sem]; rfl) (seqK_normal ?_)
          refine onBool_false (by simp [go_sem]) (seqK_exit (blockK_exit (seqK_normal ?_)))
          refine walk (fun Q => by simp [go_sem]; rfl) (seqK_normal ?_)
          exact ⟨rfl, [.int .i64 0], by show resultsV _ _ _ [ResultVar.tmp 4] = _; simp [resultsV, go_sem], rfl, .refl _⟩
        · rename_i r off len cap
          have hlen := strsAt_length hs
          refine walk (fun Q => by simp [go_sem]; rfl) (seqK_normal ?_)
          refine CodeT.forget (fr' := ⟨(((((Tr.nil.set 0 (.ptr (some (a, 0)))).set 1 (.slice (some (r, off)) len cap)).set 5 (.int .i64 0)).set 10 (.slice (some (r, off)) len cap)).set 11 (.int .i64 (len : Int))).set 12 (.int .i64 ((0 : Nat) : Int)), 53, [], none⟩)
            (frIn_set (frIn_set (frIn_set (frIn_set (frIn_set (frIn_set frIn_nil (by simp [go_sem])) (by simp [go_sem])) (by simp [go_sem])) (by simp [go_sem])) (by simp [go_sem])) (by simp [go_sem])) (Within.refl _) ?_
          have hbig : (len : Int) ≤ 1000000 := by have := Nat.le_of_ble_eq_true hsm; omega
          refine CodeT.loop_inv (I := fun m fr S' => ∃ (k : Nat) (cur : Int) (rest : List (List UInt8)), m = len - k ∧ k ≤ len ∧ strsAt S r (off + k) (len - k) = some rest ∧ walkG S a rest cur = some e0 ∧ S' = S ∧
            fr = ⟨(((((Tr.nil.set 0 (.ptr (some (a, 0)))).set 1 (.slice (some (r, off)) len cap)).set 5 (.int .i64 cur)).set 10 (.slice (some (r, off)) len cap)).set 11 (.int .i64 (len : Int))).set 12 (.int .i64 (k : Int)), 53, [], none⟩) ?_ len _ _ ⟨0, 0, names, rfl, by omega, hs, hw, rfl, rfl⟩
          rintro m fr S1 ⟨k, cur, rest, rfl, hk, hst, hwk, rfl, rfl⟩
          refine wp_sound baseC _ ?_
          simp only [wp]
          refine walk (fun Q => by simp [go_sem]; rfl) (seqK_normal ?_)
          refine onBool_of (b := decide (k < len)) (by simp [go_sem]) (fun hlt => ?_) (fun hge => ?_)
          · have hlt : k < len := by simpa using hlt
            have hkl : (k : Int) < len := by omega
            rw [show len - k = (len - (k + 1)) + 1 by omega, strsAt] at hst
            split at hst
            · rename_i s rest' hc hst'
              simp only [Option.some.injEq] at hst
              subst hst
              obtain ⟨cc, nn, tt, roo, mkk, c1, c2⟩ := cellAt_some hc
              refine seqK_normal ?_
              refine walk (fun Q => by simp [go_sem, hkl, c1, c2]; rfl) (seqK_normal ?_)
              simp only [walkG] at hwk
              split at hwk
              · -- no directory
                rename_i hd hm
                simp only [Option.some.injEq] at hwk
                subst hwk
                have hd : 0 ≤ cur ∧ cur < 64 := by simpa using hd
                obtain ⟨c, n, t, ro, mk, q1, q2⟩ := cellAt_some hm
                simp [go_sem, hd, q1, q2, gNo]
                exact seqK_panic ⟨rfl, rfl, .refl _⟩
              · rename_i rr hd hm
                have hd : 0 ≤ cur ∧ cur < 64 := by simpa using hd
                obtain ⟨c, n, t, ro, mk, q1, q2⟩ := cellAt_some hm
                refine walk (fun Q => by simp [go_sem, hd, q1, q2, gNo]; rfl) (seqK_normal ?_)
                split at hwk
                · rename_i es clk hes
                  split at hwk
                  · rename_i v hfs
                    split at hwk
                    · rename_i next
                      refine walk (fun Q => by simp [go_sem, hd, q1, q2, lookup49_in hes hfs]; rfl) (seqK_normal ?_)
                      refine walk (fun Q => by simp [go_sem]; rfl) (seqK_normal ?_)
                      refine onBool_false (by simp [go_sem]) (seqK_normal ?_)
                      refine walk (fun Q => by simp [go_sem, gNo]; rfl) (seqK_normal ?_)
                      refine walk (fun Q => by simp [go_sem]; rfl) (blockK_normal (seqK_normal ?_))
                      have hw1 : IntKind.i64.wrap ((k : Int) + 1) = ((k + 1 : Nat) : Int) := by rw [wrap_in (by omega) (by omega)]; rfl
                      refine walk (fun Q => by simp [go_sem]; rfl) ?_
                      refine ⟨len - (k + 1), _, _, by omega, frIn_set (frIn_set (frIn_set (frIn_set (frIn_set (frIn_set frIn_nil (by simp [go_sem])) (by simp [go_sem])) (by simp [go_sem])) (by simp [go_sem])) (by simp [go_sem])) (by simp [go_sem]; exact hw1), Within.refl _, k + 1, next, rest', rfl, by omega, ?_, hwk, rfl, rfl⟩
                      rw [← hst', show off + (k + 1) = off + k + 1 by omega]
                    · cases hwk
                  · rename_i hfs
                    have hl1 : IntKind.i64.wrap ((len : Int) - 1) = (len : Int) - 1 := wrap_in (by omega) (by omega)
                    refine walk (fun Q => by simp [go_sem, hd, q1, q2, lookup49_out hes hfs]; rfl) (seqK_normal ?_)
                    cases rest' with
                    | nil =>
                      simp only [Option.some.injEq] at hwk
                      subst hwk
                      have hlast := strsAt_length hst'
                      simp only [List.length_nil] at hlast
                      have hkl1 : ((k : Int) == (len : Int) - 1) = true := by simp; omega
                      refine walk (fun Q => by simp [go_sem, hl1, hkl1]; rfl) (seqK_normal ?_)
                      refine onBool_true (by simp [go_sem]) ?_
                      refine walk (fun Q => by simp [go_sem]; rfl) (seqK_normal ?_)
                      exact seqK_ret (blockK_ret (seqK_ret ⟨rfl, [.int .i64 (-1)], by show resultsV _ _ _ [ResultVar.tmp 4] = _; simp [resultsV, go_sem], rfl, .refl _⟩))
                    | cons x y =>
                      simp only [Option.some.injEq] at hwk
                      subst hwk
                      have hlast := strsAt_length hst'
                      simp only [List.length_cons] at hlast
                      have hkl1 : ((k : Int) == (len : Int) - 1) = false := by simp; omega
                      refine walk (fun Q => by simp [go_sem, hl1, hkl1]; rfl) (seqK_normal ?_)
                      refine onBool_false (by simp [go_sem]) (seqK_normal ?_)
                      simp [go_sem, gNo]
                      exact seqK_panic ⟨rfl, rfl, .refl _⟩
                  · cases hwk
                · cases hwk
              · cases hwk
            · cases hst
          · have hge : k = len := by simp at hge; omega
            subst hge
            rw [Nat.sub_self, strsAt] at hst
            simp only [Option.some.injEq] at hst
            subst hst
            simp only [walkG, Option.some.injEq] at hwk
            subst hwk
            refine seqK_exit (blockK_exit (seqK_normal ?_))
            refine walk (fun Q => by simp [go_sem]; rfl) (seqK_normal ?_)
            exact ⟨rfl, [.int .i64 cur], by show resultsV _ _ _ [ResultVar.tmp 4] = _; simp [resultsV, go_sem], rfl, .refl _⟩
        · cases hs
  · cases h

def gMust : List VV → St → Option (En × St)
  | [.ptr (some (a, 0)), sl], S => match gWalk [.ptr (some (a, 0)), sl] S with
    | some (.returned (.int .i64 n), S') => match decide (n < 0) with
      | true => some (.panicked (refusedV 2), S')
      | false => some (.returned (.int .i64 n), S')
    | some (.panicked ch, S') => some (.panicked ch, S')
    | _ => none
  | _, _ => none

def ovD : Ov := fun f => match f with
  | 28 => some gWalk
  | 34 => some gAt
  | 39 => some gGone
  | f => ovC f

@[go_sem] theorem ovD28 : ovD 28 = some gWalk := rfl
@[go_sem] theorem ovD34 : ovD 34 = some gAt := rfl
@[go_sem] theorem ovD39 : ovD 39 = some gGone := rfl
@[go_sem] theorem ovD13 : ovD 13 = some gNodes := rfl
@[go_sem] theorem ovD14 : ovD 14 = some gBytes := rfl
@[go_sem] theorem ovD58 : ovD 58 = some gLinks := rfl
@[go_sem] theorem ovD56 : ovD 56 = some gContains := rfl
@[go_sem] theorem ovD30 : ovD 30 = some gFree := rfl
@[go_sem] theorem ovD25 : ovD 25 = some gNo := rfl
@[go_sem] theorem ovD29 : ovD 29 = some gDir := rfl
@[go_sem] theorem ovD31 : ovD 31 = some gIdxFile := rfl
@[go_sem] theorem ovD40 : ovD 40 = some gThere := rfl

theorem ovD_sound : OvSound Tryd.prog ovD := by
  refine ovSound_of fun f g hf args S e S' hg => ?_
  unfold ovD at hf
  split at hf
  · cases hf; exact (walk_T hg).fun noCount Tryd.func28 rfl
  · cases hf; exact (at_T hg).fun noCount Tryd.func34 rfl
  · cases hf; exact (gone_T hg).fun noCount Tryd.func39 rfl
  · exact ovC_sound f g args S e S' hf hg

theorem baseD : Base Tryd.prog ovD := ⟨mix, noCount, ovD_sound⟩

set_option maxRecDepth 10000 in
theorem must_T {args : List VV} {S S' : St} {e : En} (h : gMust args S = some (e, S')) : Does Tryd.prog 37 args S e S' := by
  unfold gMust at h
  split at h
  · rename_i a sl
    refine Does.of baseD Tryd.func37 rfl (n := 13) rfl fun hfr => ?_
    simp only [tr_setAll_cons, tr_setAll_nil, wp]
    refine walk (fun Q => by simp [go_sem]; rfl) (seqK_normal ?_)
    split at h
    · rename_i n S1 hw
      refine walk (fun Q => by simp [go_sem, hw]; rfl) (seqK_normal ?_)
      split at h
      · rename_i hn
        simp only [Option.some.injEq, Prod.mk.injEq] at h
        obtain ⟨rfl, rfl⟩ := h
        have hn : n < 0 := by simpa using hn
        simp [go_sem, gNo, hn]
        exact seqK_panic ⟨rfl, rfl, .refl _⟩
      · rename_i hn
        simp only [Option.some.injEq, Prod.mk.injEq] at h
        obtain ⟨rfl, rfl⟩ := h
        have hn : (n < 0) = False := by simpa using hn
        refine walk (fun Q => by simp [go_sem, gNo, hn]; rfl) (seqK_normal ?_)
        refine walk (fun Q => by simp [go_sem]; rfl) (seqK_normal ?_)
        exact ⟨rfl, [.int .i64 n], by show resultsV _ _ _ [ResultVar.tmp 4] = _; simp [resultsV, go_sem], rfl, .refl _⟩
    · rename_i ch S1 hw
      simp only [Option.some.injEq, Prod.mk.injEq] at h
      obtain ⟨rfl, rfl⟩ := h
      simp [go_sem, hw]
      exact seqK_panic ⟨rfl, rfl, .refl _⟩
    · cases h
  · cases h

end Go.Proofs.YtgdpedfahfmjeaaDoor

/-
  What the small functions of ramfs come to (10): place.
-/
namespace Go.Proofs.YtgdpedfahfmjeaaDoor
open Go Go.Vm

theorem strsAt_last {S : St} {r : Nat} : ∀ {n off : Nat} {l : List (List UInt8)}, strsAt S r off (n + 1) = some l → strsAt S r off n = some l.dropLast ∧ ∃ s, l.getLast? = some s ∧ cellAt S r (off + n) = some (.str s)
  | 0, off, l, h => by
    simp only [strsAt] at h
    split at h
    · rename_i s l' h1 h2
      simp only [Option.some.injEq] at h h2
      subst h2; subst h
      exact ⟨rfl, s, rfl, h1⟩
    · cases h
  | n + 1, off, l, h => by
    rw [strsAt] at h
    split at h
    · rename_i s l' h1 h2
      simp only [Option.some.injEq] at h
      subst h
      obtain ⟨q1, s', q2, q3⟩ := strsAt_last (n := n) h2
      have hne : l' ≠ [] := fun e => by subst e; simp at q2
      refine ⟨by simp only [strsAt, h1, q1, List.dropLast_cons_of_ne_nil hne], s', by rw [List.getLast?_cons_of_ne_nil hne]; exact q2, by rw [← q3]; congr 1; omega⟩
    · cases h

/-- a slice whose length lies within its capacity -/
def lenFits : VV → Bool
  | .slice (some _) n (.just c) => Nat.ble n c
  | .slice (some _) _ (.rest z) => Nat.beq z 1
  | .slice none _ _ => true
  | _ => false

/-- the place of the last of names -/
def placeG (S : St) (a : Nat) (names : List (List UInt8)) : Option En := match names.getLast? with
  | none => some (.returned (.tuple [.map none, .str []]))
  | some last => match walkG S a names.dropLast 0 with
    | some (.returned (.int .i64 n)) => match decide (n < 0) with
      | true => some (.panicked (refusedV 2))
      | false => match decide (n < 64), cellAt S a (n.toNat * 3 + 1) with
        | true, some (.map none) => some (.panicked (refusedV 20))
        | true, some (.map (some r)) => some (.returned (.tuple [.map (some r), .str last]))
        | _, _ => none
    | some (.panicked ch) => some (.panicked ch)
    | _ => none

def gPlace : List VV → St → Option (En × St)
  | [.ptr (some (a, 0)), sl], S => match strsOf S sl, lenFits sl with
    | some names, true => match Nat.ble names.length 1000000, placeG S a names with
      | true, some e => some (e, S)
      | _, _ => none
    | _, _ => none
  | _, _ => none

def ovE : Ov := fun f => match f with
  | 37 => some gMust
  | f => ovD f
@[go_sem] theorem ovE37 : ovE 37 = some gMust := rfl
@[go_sem] theorem ovE25 : ovE 25 = some gNo := rfl
theorem ovE_sound : OvSound Tryd.prog ovE := by
  refine ovSound_of fun f g hf args S e S' hg => ?_
  unfold ovE at hf
  split at hf
  · cases hf; exact (must_T hg).fun noCount Tryd.func37 rfl
  · exact ovD_sound f g args S e S' hf hg
theorem baseE : Base Tryd.prog ovE := ⟨mix, noCount, ovE_sound⟩

theorem und48 : Tryd.prog.underlying 48 = some (.slice 9) := by kernel_rfl

/-- all but the last -/
theorem slice48 {r off len : Nat} {cap : Cap} (hl : len ≠ 0) (hf : lenFits (.slice (some (r, off)) len cap) = true) (hb : (len : Int) ≤ 1000000) : ∃ cap', sliceV Tryd.prog 48 (.slice (some (r, off)) len cap) none (some (.int .i64 ((len : Int) - 1))) none = some (.slice (some (r, off)) (len - 1) cap') := by
  have h0 : (0 : Int) ≤ (len : Int) - 1 := by omega
  have ht : ((len : Int) - 1).toNat = len - 1 := by omega
  cases cap with
  | just c =>
    have hle : len ≤ c := Nat.le_of_ble_eq_true hf
    have hc : c ≠ 0 := by omega
    refine ⟨.just c, ?_⟩
    have hb1 : Nat.ble (len - 1) c = true := by rw [Nat.ble_eq]; omega
    have h1 : (1 : Int) ≤ len := by omega
    simp [sliceV, und48, size9, boundsV, optBoundV, boundV, h1, ht, hb1, hc]
  | rest z =>
    have hz : z = 1 := Nat.eq_of_beq_eq_true hf
    subst hz
    refine ⟨.rest 1, ?_⟩
    have hb1 : Nat.ble (len - 1) len = true := by rw [Nat.ble_eq]; omega
    have h1 : (1 : Int) ≤ len := by omega
    simp [sliceV, und48, size9, boundsV, optBoundV, boundV, h1, ht, hb1]

set_option maxRecDepth 10000 in
set_option maxHeartbeats 1000000 in
theorem place_T {args : List VV} {S S' : St} {e : En} (h : gPlace args S = some (e, S')) : Does Tryd.prog 27 args S e S' := by
  unfold gPlace at h
  split at h
  · rename_i a sl
    split at h
    · rename_i names hs hfit
      split at h
      · rename_i e0 hsm hpl
        simp only [Option.some.injEq, Prod.mk.injEq] at h
        obtain ⟨rfl, rfl⟩ := h
        refine Does.of baseE Tryd.func27 rfl (n := 33) rfl fun hfr => ?_
        simp only [tr_setAll_cons, tr_setAll_nil, wp]
        refine walk (fun Q => by simp [go_sem]; rfl) (seqK_normal ?_)
        have hs0 := hs
        unfold strsOf at hs
        split at hs
        · simp only [Option.some.injEq] at hs
          subst hs
          simp only [placeG, List.getLast?_nil, Option.some.injEq] at hpl
          subst hpl
          refine walk (fun Q => by simp [go_sem]; rfl) (seqK_normal ?_)
          refine onBool_true (by simp [go_sem]) ?_
          refine walk (fun Q => by simp [go_sem]; rfl) (seqK_normal ?_)
          exact seqK_ret ⟨rfl, [.map none, .str []], by show resultsV _ _ _ [ResultVar.tmp 4, ResultVar.tmp 5] = _; simp [resultsV, go_sem], rfl, .refl _⟩
        · rename_i r off len cap
          have hlen := strsAt_length hs
          have hbig : (len : Int) ≤ 1000000 := by have := Nat.le_of_ble_eq_true hsm; omega
          by_cases hl0 : len = 0
          · subst hl0
            simp only [strsAt, Option.some.injEq] at hs
            subst hs
            simp only [placeG, List.getLast?_nil, Option.some.injEq] at hpl
            subst hpl
            refine walk (fun Q => by simp [go_sem]; rfl) (seqK_normal ?_)
            refine onBool_true (by simp [go_sem]) ?_
            refine walk (fun Q => by simp [go_sem]; rfl) (seqK_normal ?_)
            exact seqK_ret ⟨rfl, [.map none, .str []], by show resultsV _ _ _ [ResultVar.tmp 4, ResultVar.tmp 5] = _; simp [resultsV, go_sem], rfl, .refl _⟩
          · have hlne : ((len : Int) == 0) = false := by simp; omega
            refine walk (fun Q => by simp [go_sem, hlne]; rfl) (seqK_normal ?_)
            refine onBool_false (by simp [go_sem]) (seqK_normal ?_)
            obtain ⟨cap', hsl⟩ := slice48 hl0 hfit hbig
            obtain ⟨hdrop, last, hlast, hcell⟩ := strsAt_last (n := len - 1) (by rw [show len - 1 + 1 = len by omega]; exact hs)
            obtain ⟨cc, nn, tt, roo, mkk, c1, c2⟩ := cellAt_some hcell
            have hw1 : IntKind.i64.wrap ((len : Int) - 1) = (len : Int) - 1 := wrap_in (by omega) (by omega)
            have hst : strsOf S (.slice (some (r, off)) (len - 1) cap') = some names.dropLast := hdrop
            have hsm2 : Nat.ble names.dropLast.length 1000000 = true := by
              have := Nat.le_of_ble_eq_true hsm
              rw [List.length_dropLast, Nat.ble_eq]
              omega
            have hi1 : (1 : Int) ≤ len := by omega
            have hi2 : ((len : Int) - 1).toNat = len - 1 := by omega
            simp only [placeG, hlast] at hpl
            refine CodeT.draw baseE (keep := fun _ => false) noKeep (cl := [0, 1, 2, 3, 4, 5, 6, 8, 9, 7, 10, 11, 12, 13]) (by kernel_rfl) (by rfl) (by rfl) ?_
            split at hpl
            · rename_i n hwk
              have hwalk : gWalk [.ptr (some (a, 0)), .slice (some (r, off)) (len - 1) cap'] S = some (.returned (.int .i64 n), S) := by simp only [gWalk, hst, hsm2, hwk]
              split at hpl
              · rename_i hn
                simp only [Option.some.injEq] at hpl
                subst hpl
                have hm2 : gMust [.ptr (some (a, 0)), .slice (some (r, off)) (len - 1) cap'] S = some (.panicked (refusedV 2), S) := by simp only [gMust, hwalk, hn]
                simp [go_sem, hw1, hsl, hm2]
                exact panicAll_panic fun t => seqK_panic ⟨rfl, rfl, .refl _⟩
              · rename_i hn
                have hm2 : gMust [.ptr (some (a, 0)), .slice (some (r, off)) (len - 1) cap'] S = some (.returned (.int .i64 n), S) := by simp only [gMust, hwalk, hn]
                have hn0 : 0 ≤ n := by have : ¬ n < 0 := by simpa using hn
                                       omega
                split at hpl
                · rename_i h64 hm
                  simp only [Option.some.injEq] at hpl
                  subst hpl
                  have h64 : n < 64 := by simpa using h64
                  obtain ⟨c, nn', t, ro, mk, q1, q2⟩ := cellAt_some hm
                  refine walk (fun Q => by simp [go_sem, hw1, hsl, hm2, hn0, h64, q1, q2]; rfl) (panicAll_normal (seqK_normal ?_))
                  simp [go_sem, gNo]
                  exact seqK_panic ⟨rfl, rfl, .refl _⟩
                · rename_i m h64 hm
                  simp only [Option.some.injEq] at hpl
                  subst hpl
                  have h64 : n < 64 := by simpa using h64
                  obtain ⟨c, nn', t, ro, mk, q1, q2⟩ := cellAt_some hm
                  refine walk (fun Q => by simp [go_sem, hw1, hsl, hm2, hn0, h64, q1, q2]; rfl) (panicAll_normal (seqK_normal ?_))
                  refine walk (fun Q => by simp [go_sem, gNo]; rfl) (seqK_normal ?_)
                  refine CodeT.draw baseE (keep := fun _ => false) noKeep (cl := [0, 1, 2, 3, 4, 5, 6, 7, 8]) (by kernel_rfl) (by rfl) (by rfl) ?_
                  have hlt1 : (len : Int) - 1 < len := by omega
                  refine walk (fun Q => by simp [go_sem, hw1, hi1, hi2, hlt1, c1, c2]; rfl) (panicAll_normal (seqK_normal ?_))
                  exact ⟨rfl, [.map (some m), .str last], by show resultsV _ _ _ [ResultVar.tmp 4, ResultVar.tmp 5] = _; simp [resultsV, go_sem], rfl, .refl _⟩
                · cases hpl
            · rename_i ch hwk
              simp only [Option.some.injEq] at hpl
              subst hpl
              have hwalk : gWalk [.ptr (some (a, 0)), .slice (some (r, off)) (len - 1) cap'] S = some (.panicked ch, S) := by simp only [gWalk, hst, hsm2, hwk]
              have hm2 : gMust [.ptr (some (a, 0)), .slice (some (r, off)) (len - 1) cap'] S = some (.panicked ch, S) := by simp only [gMust, hwalk]
              simp [go_sem, hw1, hsl, hm2]
              exact panicAll_panic fun t => seqK_panic ⟨rfl, rfl, .refl _⟩
            · cases hpl
        · cases hs
      · cases h
    · cases h
  · cases h

end Go.Proofs.YtgdpedfahfmjeaaDoor

/-
  What utf8.ValidString comes to, by the library's proved contract: true just if the bytes are UTF-8. Condition: the two tables lie as their initialisers lay them.
-/
namespace Go.Vm
variable {P : Program}

/-- a contract of the kit's: a value, and nothing that was there has turned -/
theorem FunT.of_calls (hn : NoCount P) {f : FuncId} {fn : Func} (hf : P.funcs[f]? = some fn) (hb : fn.body.isSome = true) {args : List VV} {S : St} {v : VV}
    (h : ∀ ρ w (args' : Array Value), Sim P.globals.size ρ S w → VRels ρ args args'.toList → ∃ v', VRel ρ v v' ∧ Calls P f args' w fun e w' => e = .returned v' ∧ RowKit.Below w.heap.size w w') : FunT P f args S fun e1 S1 => e1 = .returned v ∧ S1 = S := by
  intro ρ w args' hS ha s hs c cs hc
  obtain ⟨v', hv, hcalls⟩ := h ρ w args' hS ha
  obtain ⟨e, w', fr, ⟨rfl, hbl⟩, hsteps, _, hleave⟩ := hcalls (c :: cs)
  have hent := callFunc_enter hn hf hb args' w
  exact ⟨_, _, ⟨rfl, rfl⟩, ρ, w', Goes.grown hS ⟨hbl.size, fun r hr => hbl.block r hr, hbl.output, hbl.os⟩, v', hv, _, _, _, apply_enter hc (by rw [hs, hent]), hsteps.trans (.one (step_leave_returned hleave))⟩

end Go.Vm

namespace Go.Proofs.YtgdpedfahfmjeaaDoor
open Go Go.Vm

def vren : Go.Shelf.Ren := ⟨fun n => match n with
  | 196 => 52
  | 259 => 60
  | n => n, fun n => match n with
  | 119 => 92
  | 138 => 94
  | 139 => 95
  | 46 => 96
  | 53 => 101
  | n => n, fun n => match n with
  | 3 => 0
  | 4 => 1
  | n => n⟩

theorem vlays : Go.Proofs.Lays.n196 Tryd.prog vren := {
  mixed := mix
  f196 := by kernel_rfl
  f259 := by kernel_rfl
  t0 := by kernel_rfl
  a0 := fun _ => by kernel_rfl
  z0 := fun _ => by kernel_rfl
  v0 := fun _ => by kernel_rfl
  t3 := by kernel_rfl
  a3 := fun _ => by kernel_rfl
  z3 := fun _ => by kernel_rfl
  v3 := fun _ => by kernel_rfl
  t4 := by kernel_rfl
  a4 := fun _ => by kernel_rfl
  z4 := fun _ => by kernel_rfl
  v4 := fun _ => by kernel_rfl
  t5 := by kernel_rfl
  a5 := fun _ => by kernel_rfl
  z5 := fun _ => by kernel_rfl
  v5 := fun _ => by kernel_rfl
  t9 := by kernel_rfl
  a9 := fun _ => by kernel_rfl
  z9 := fun _ => by kernel_rfl
  v9 := fun _ => by kernel_rfl
  t12 := by kernel_rfl
  a12 := fun _ => by kernel_rfl
  z12 := fun _ => by kernel_rfl
  v12 := fun _ => by kernel_rfl
  t46 := by kernel_rfl
  a46 := fun _ => by kernel_rfl
  z46 := fun _ => by kernel_rfl
  v46 := fun _ => by kernel_rfl
  t53 := by kernel_rfl
  a53 := fun _ => by kernel_rfl
  z53 := fun _ => by kernel_rfl
  v53 := fun _ => by kernel_rfl
  t119 := by kernel_rfl
  a119 := fun _ => by kernel_rfl
  z119 := fun _ => by kernel_rfl
  t138 := by kernel_rfl
  a138 := fun _ => by kernel_rfl
  z138 := fun _ => by kernel_rfl
  v138 := fun _ => by kernel_rfl
  t139 := by kernel_rfl
  a139 := fun _ => by kernel_rfl
  z139 := fun _ => by kernel_rfl
  v139 := fun _ => by kernel_rfl
  g3 := by kernel_rfl
  g4 := by kernel_rfl
  }

/-- a row of numbers, as listed -/
def eqInts (c : Tr VV) : Nat → List Int → Bool
  | _, [] => true
  | k, x :: l => match c.get k with
    | some (.int .u8 n) => (n == x) && eqInts c (k + 1) l
    | _ => false

theorem eqInts_spec {c : Tr VV} : ∀ {l : List Int} {k : Nat}, eqInts c k l = true → ∀ i x, l[i]? = some x → c.get (k + i) = some (.int .u8 x)
  | [], k, _, i, x, hx => by simp at hx
  | y :: l, k, h, i, x, hx => by
    simp only [eqInts] at h
    split at h
    · rename_i n hn
      simp only [Bool.and_eq_true, beq_iff_eq] at h
      cases i with
      | zero =>
        simp only [List.getElem?_cons_zero, Option.some.injEq] at hx
        rw [Nat.add_zero, hn, h.1, hx]
      | succ i =>
        rw [show k + (i + 1) = k + 1 + i by omega]
        exact eqInts_spec h.2 i x (by simpa using hx)
    · cases h

def firstL : List Int := (List.range 256).map fun c => (Lib.firstT c : Int)
def acceptL : List Int := (List.range 32).map fun c => (bif Nat.beq (c % 2) 0 then (Lib.accLo (c / 2) : Int) else (Lib.accHi (c / 2) : Int))

/-- the two tables lie there -/
def tabsB (S : St) : Bool := match S.h.get 0, S.h.get 1 with
  | some (.cells c0 _ _ _ _), some (.cells c1 _ _ _ _) => eqInts c0 0 firstL && eqInts c1 0 acceptL
  | _, _ => false

theorem tabs_world {S : St} {ρ : Go.Vm.Ren} {w : World} (hS : Sim Tryd.prog.globals.size ρ S w) (h : tabsB S = true) : Lib.Utf8Tabs 0 1 w := by
  unfold tabsB at h
  split at h
  · rename_i c0 _ _ _ _ c1 _ _ _ _ h0 h1
    simp only [Bool.and_eq_true] at h
    have key : ∀ g, g < 3 → ∀ c m t ro mk, S.h.get g = some (.cells c m t ro mk) → ∀ k v, c.get k = some (.int .u8 v) → w.cell? ⟨g, k, none⟩ = some (.int .u8 v) := by
      intro g hg c m t ro mk hc k v hv
      obtain ⟨n, hgl⟩ := hS.glob g (by rw [prog_size]; exact hg)
      obtain ⟨r, b, n', o', q1, q2, q3⟩ := hS.obj _ _ hc
      rw [hgl] at q1
      cases q1
      cases q3 with
      | cells _ _ _ hget _ _ =>
        obtain ⟨v', e1, e2⟩ := hget k _ hv
        cases e2
        simp only [World.cell?, q2]
        simpa using e1
    refine ⟨fun c hc => key 0 (by omega) _ _ _ _ _ h0 c _ ?_, fun i hi => ⟨key 1 (by omega) _ _ _ _ _ h1 _ _ ?_, key 1 (by omega) _ _ _ _ _ h1 _ _ ?_⟩⟩
    · have := eqInts_spec h.1 c (Lib.firstT c : Int) (by simp [firstL, List.getElem?_range hc])
      simpa using this
    · have := eqInts_spec h.2 (2 * i) (Lib.accLo i : Int) (by
        have : 2 * i < 32 := by omega
        simp [acceptL, List.getElem?_range this])
      simpa using this
    · have := eqInts_spec h.2 (2 * i + 1) (Lib.accHi i : Int) (by
        have h1 : 2 * i + 1 < 32 := by omega
        have h2 : (2 * i + 1) % 2 = 1 := by omega
        have h3 : (2 * i + 1) / 2 = i := by omega
        simp [acceptL, List.getElem?_range h1, h2, h3, Nat.beq])
      simpa using this
  · cases h

def gValid : List VV → St → Option (En × St)
  | [.str s], S => match tabsB S, Nat.ble s.length 1000000 with
    | true, true => some (.returned (.bool (Lib.validD s)), S)
    | _, _ => none
  | _, _ => none

theorem valid_T {args : List VV} {S S' : St} {e : En} (h : gValid args S = some (e, S')) : FunT Tryd.prog 52 args S fun e1 S1 => e1 = e ∧ S1 = S' := by
  unfold gValid at h
  split at h
  · rename_i s
    split at h
    · rename_i ht hl
      simp only [Option.some.injEq, Prod.mk.injEq] at h
      obtain ⟨rfl, rfl⟩ := h
      refine FunT.of_calls noCount Tryd.func52 rfl fun ρ w args' hS ha => ?_
      obtain ⟨l⟩ := args'
      simp only at ha
      cases ha with
      | cons h1 t =>
        cases t
        cases h1 with
        | str bs =>
          have hsz : bs.size ≤ 9223372036854775807 := by
            have := Nat.le_of_ble_eq_true hl
            have e : bs.data.toList.length = bs.size := by rw [Array.length_toList]; rfl
            omega
          exact ⟨_, .bool _, Any.utf8_ValidString vlays bs w hsz (tabs_world hS ht)⟩
    · cases h
  · cases h

end Go.Proofs.YtgdpedfahfmjeaaDoor

/-
  What the library's functions on strings come to, at the separator '/'.
-/
namespace Go.Proofs.YtgdpedfahfmjeaaDoor
open Go Go.Vm

@[go_sem] theorem len9 (S : St) (s : List UInt8) : lenV Tryd.prog S [9] [.str s] = some (.int .i64 s.length) := by kernel_rfl
theorem und9 : Tryd.prog.underlying 9 = some .string := by kernel_rfl
@[go_sem] theorem binV_str (S : St) (op : BinOp) (t : TypeId) (x y : Operand) (a b : List UInt8) : binV Tryd.prog S op t x y (.str a) (.str b) = strOpV op a b := rfl
@[go_sem] theorem strOpV_eql (a b : List UInt8) : strOpV .eql a b = some (.bool (strEq a b)) := rfl
@[go_sem] theorem strOpV_neq (a b : List UInt8) : strOpV .neq a b = some (.bool (!strEq a b)) := rfl
theorem slice9_to {s : List UInt8} {i : Nat} (h : i ≤ s.length) : sliceV Tryd.prog 9 (.str s) none (some (.int .i64 (i : Int))) none = some (.str (s.take i)) := by
  have h1 : Nat.ble i s.length = true := by rw [Nat.ble_eq]; exact h
  simp [sliceV, und9, boundsV, optBoundV, boundV, h1]
theorem slice9_from {s : List UInt8} {i : Nat} (h : i ≤ s.length) : sliceV Tryd.prog 9 (.str s) (some (.int .i64 (i : Int))) none none = some (.str (s.drop i)) := by
  have h1 : Nat.ble i s.length = true := by rw [Nat.ble_eq]; exact h
  simp [sliceV, und9, boundsV, optBoundV, boundV, h1]
  rw [List.take_of_length_le (by simp)]

/-- does it begin with a slash? -/
def slashed : List UInt8 → Bool
  | c :: _ => Nat.beq c.toNat 47
  | [] => false

theorem strEq_slash (c : UInt8) : strEq [c] [47] = Nat.beq c.toNat 47 := by
  simp only [strEq]
  rw [show (47 : UInt8).toNat = 47 from rfl]
  cases Nat.beq c.toNat 47 <;> rfl

def gHas : List VV → St → Option (En × St)
  | [.str s, .str [47]], S => some (.returned (.bool (slashed s)), S)
  | _, _ => none

set_option maxRecDepth 10000 in
theorem has59_T {args : List VV} {S S' : St} {e : En} (h : gHas args S = some (e, S')) : Does Tryd.prog 59 args S e S' := by
  unfold gHas at h
  split at h
  · rename_i s
    simp only [Option.some.injEq, Prod.mk.injEq] at h
    obtain ⟨rfl, rfl⟩ := h
    refine Does.of base0 Tryd.func59 rfl (n := 18) rfl fun hfr => ?_
    simp only [tr_setAll_cons, tr_setAll_nil, wp]
    refine walk (fun Q => by simp [go_sem]; rfl) (seqK_normal ?_)
    cases s with
    | nil =>
      refine walk (fun Q => by simp [go_sem]; rfl) (seqK_normal ?_)
      exact ⟨rfl, [.bool false], by show resultsV _ _ _ [ResultVar.tmp 4] = _; simp [resultsV, go_sem], rfl, .refl _⟩
    | cons c s =>
      have h1 : (1 : Int) ≤ (s.length : Int) + 1 := by omega
      have hsl : sliceV Tryd.prog 9 (.str (c :: s)) none (some (.int .i64 1)) none = some (.str [c]) := by
        have := slice9_to (s := c :: s) (i := 1) (by simp)
        simpa using this
      refine walk (fun Q => by simp [go_sem, h1, hsl, strEq_slash]; rfl) (seqK_normal ?_)
      exact ⟨rfl, [.bool (slashed (c :: s))], by show resultsV _ _ _ [ResultVar.tmp 4] = _; simp [resultsV, go_sem, slashed], rfl, .refl _⟩
  · cases h

def ovS1 : Ov := fun f => match f with
  | 59 => some gHas
  | 71 => some ibV
  | _ => none
@[go_sem] theorem ovS1_59 : ovS1 59 = some gHas := rfl
@[go_sem] theorem ovS1_71 : ovS1 71 = some ibV := rfl
theorem baseS1 : Base Tryd.prog ovS1 := ⟨mix, noCount, ovSound_of fun f g hf args S e S' hg => by
  unfold ovS1 at hf
  split at hf <;> (try cases hf)
  · exact (has59_T hg).fun noCount Tryd.func59 rfl
  · exact ibV_sound Tryd.func71 (by kernel_rfl) (by kernel_rfl) (by kernel_rfl) (by kernel_rfl) hg⟩

set_option maxRecDepth 10000 in
theorem has51_T {args : List VV} {S S' : St} {e : En} (h : gHas args S = some (e, S')) : Does Tryd.prog 51 args S e S' := by
  unfold gHas at h
  split at h
  · rename_i s
    simp only [Option.some.injEq, Prod.mk.injEq] at h
    obtain ⟨rfl, rfl⟩ := h
    refine Does.of baseS1 Tryd.func51 rfl (n := 8) rfl fun hfr => ?_
    simp only [tr_setAll_cons, tr_setAll_nil, wp]
    refine walk (fun Q => by simp [go_sem]; rfl) (seqK_normal ?_)
    refine walk (fun Q => by simp [go_sem, gHas]; rfl) (seqK_normal ?_)
    exact ⟨rfl, [.bool (slashed s)], by show resultsV _ _ _ [ResultVar.tmp 4] = _; simp [resultsV, go_sem], rfl, .refl _⟩
  · cases h

def unslash (s : List UInt8) : List UInt8 := match slashed s with
  | true => s.drop 1
  | false => s

def gTrim : List VV → St → Option (En × St)
  | [.str s, .str [47]], S => some (.returned (.str (unslash s)), S)
  | _, _ => none

set_option maxRecDepth 10000 in
theorem trim64_T {args : List VV} {S S' : St} {e : En} (h : gTrim args S = some (e, S')) : Does Tryd.prog 64 args S e S' := by
  unfold gTrim at h
  split at h
  · rename_i s
    simp only [Option.some.injEq, Prod.mk.injEq] at h
    obtain ⟨rfl, rfl⟩ := h
    refine Does.of baseS1 Tryd.func64 rfl (n := 13) rfl fun hfr => ?_
    simp only [tr_setAll_cons, tr_setAll_nil, wp]
    refine walk (fun Q => by simp [go_sem]; rfl) (seqK_normal ?_)
    refine walk (fun Q => by simp [go_sem, gHas]; rfl) (seqK_normal ?_)
    refine onBool_of (b := slashed s) (by simp [go_sem]) (fun hs => ?_) (fun hs => ?_)
    · have hne : 1 ≤ s.length := by
        cases s with
        | nil => simp [slashed] at hs
        | cons c s => simp
      have hsl := slice9_from hne
      refine walk (fun Q => by simp [go_sem]; simp at hsl; rw [hsl]; simp [go_sem]; rfl) (seqK_normal ?_)
      exact seqK_ret ⟨rfl, [.str (unslash s)], by show resultsV _ _ _ [ResultVar.tmp 4] = _; simp [resultsV, go_sem, unslash, hs], rfl, .refl _⟩
    · refine seqK_normal (walk (fun Q => by simp [go_sem]; rfl) (seqK_normal ?_))
      exact ⟨rfl, [.str (unslash s)], by show resultsV _ _ _ [ResultVar.tmp 4] = _; simp [resultsV, go_sem, unslash, hs], rfl, .refl _⟩
  · cases h

/-- where the first slash is -/
def gIdx : List VV → St → Option (En × St)
  | [.str s, .str [47]], S => some (.returned (.int .i64 (idxB s 47 0)), S)
  | _, _ => none

def ovS2 : Ov := fun f => match f with
  | 64 => some gTrim
  | f => ovS1 f
@[go_sem] theorem ovS2_64 : ovS2 64 = some gTrim := rfl
@[go_sem] theorem ovS2_71 : ovS2 71 = some ibV := rfl
@[go_sem] theorem ovS2_67 : ovS2 67 = none := rfl
theorem baseS2 : Base Tryd.prog ovS2 := ⟨mix, noCount, ovSound_of fun f g hf args S e S' hg => by
  unfold ovS2 at hf
  split at hf
  · cases hf; exact (trim64_T hg).fun noCount Tryd.func64 rfl
  · exact baseS1.ov f g args S e S' hf hg⟩

set_option maxRecDepth 10000 in
theorem trim62_T {args : List VV} {S S' : St} {e : En} (h : gTrim args S = some (e, S')) : Does Tryd.prog 62 args S e S' := by
  unfold gTrim at h
  split at h
  · rename_i s
    simp only [Option.some.injEq, Prod.mk.injEq] at h
    obtain ⟨rfl, rfl⟩ := h
    refine Does.of baseS2 Tryd.func62 rfl (n := 8) rfl fun hfr => ?_
    simp only [tr_setAll_cons, tr_setAll_nil, wp]
    refine walk (fun Q => by simp [go_sem]; rfl) (seqK_normal ?_)
    refine walk (fun Q => by simp [go_sem, gTrim]; rfl) (seqK_normal ?_)
    exact ⟨rfl, [.str (unslash s)], by show resultsV _ _ _ [ResultVar.tmp 4] = _; simp [resultsV, go_sem], rfl, .refl _⟩
  · cases h

set_option maxRecDepth 10000 in
theorem idx67_T (s : List UInt8) (S : St) : Does Tryd.prog 67 [.str s, .int .u8 47] S (.returned (.int .i64 (idxB s 47 0))) S := by
  refine Does.of baseS2 Tryd.func67 rfl (n := 8) rfl fun hfr => ?_
  simp only [tr_setAll_cons, tr_setAll_nil, wp]
  refine walk (fun Q => by simp [go_sem]; rfl) (seqK_normal ?_)
  have hib : ibV [.str s, .int .u8 47] S = some (.returned (.int .i64 (idxB s 47 0)), S) := rfl
  refine walk (fun Q => by simp [go_sem, hib]; rfl) (seqK_normal ?_)
  exact ⟨rfl, [.int .i64 (idxB s 47 0)], by show resultsV _ _ _ [ResultVar.tmp 4] = _; simp [resultsV, go_sem], rfl, .refl _⟩

def gIdxB : List VV → St → Option (En × St)
  | [.str s, .int .u8 47], S => some (.returned (.int .i64 (idxB s 47 0)), S)
  | _, _ => none

def ovS3 : Ov := fun f => match f with
  | 67 => some gIdxB
  | _ => none
@[go_sem] theorem ovS3_67 : ovS3 67 = some gIdxB := rfl
theorem baseS3 : Base Tryd.prog ovS3 := ⟨mix, noCount, ovSound_of fun f g hf args S e S' hg => by
  unfold ovS3 at hf
  split at hf <;> (try cases hf)
  unfold gIdxB at hg
  split at hg
  · simp only [Option.some.injEq, Prod.mk.injEq] at hg
    obtain ⟨rfl, rfl⟩ := hg
    exact (idx67_T _ _).fun noCount Tryd.func67 rfl
  · cases hg⟩

@[go_sem] theorem index9_0 (c : UInt8) (s : List UInt8) : indexV Tryd.prog 9 (.str (c :: s)) (.int .i64 0) = some (.int .u8 c.toNat) := by kernel_rfl

set_option maxRecDepth 10000 in
theorem idx66_T (s : List UInt8) (S : St) : Does Tryd.prog 66 [.str s, .str [47]] S (.returned (.int .i64 (idxB s 47 0))) S := by
  refine Does.of baseS3 Tryd.func66 rfl (n := 143) rfl fun hfr => ?_
  simp only [tr_setAll_cons, tr_setAll_nil, wp]
  refine walk (fun Q => by simp [go_sem]; rfl) (seqK_normal ?_)
  refine walk (fun Q => by simp [go_sem]; rfl) (seqK_normal ?_)
  refine walk (fun Q => by simp [go_sem]; rfl) (seqK_normal ?_)
  refine onBool_of (b := strEq [47] s) (by simp [go_sem]) (fun hs => ?_) (fun _ => ?_)
  · have hs0 : s = [47] := by rw [strEq_eq, beq_iff_eq] at hs; exact hs.symm
    subst hs0
    refine walk (fun Q => by simp [go_sem]; rfl) (seqK_normal ?_)
    exact blockK_ret (seqK_ret ⟨rfl, [.int .i64 0], by show resultsV _ _ _ [ResultVar.tmp 4] = _; simp [resultsV, go_sem], rfl, .refl _⟩)
  refine walk (fun Q => by simp [go_sem]; rfl) (seqK_normal ?_)
  refine onBool_true (by simp [go_sem]) ?_
  refine walk (fun Q => by simp [go_sem, gIdxB]; rfl) (seqK_normal ?_)
  exact blockK_ret (seqK_ret ⟨rfl, [.int .i64 (idxB s 47 0)], by show resultsV _ _ _ [ResultVar.tmp 4] = _; simp [resultsV, go_sem], rfl, .refl _⟩)

/-- what is ahead of the first slash, what is behind it, is there one? -/
def cutG (s : List UInt8) : List UInt8 × List UInt8 × Bool := match idxB s 47 0 with
  | .ofNat i => (s.take i, s.drop (i + 1), true)
  | .negSucc _ => (s, [], false)

def gCut : List VV → St → Option (En × St)
  | [.str s, .str [47]], S => match Nat.ble s.length 1000000 with
    | true => some (.returned (.tuple [.str (cutG s).1, .str (cutG s).2.1, .bool (cutG s).2.2]), S)
    | false => none
  | _, _ => none

def ovS4 : Ov := fun f => match f with
  | 66 => some gIdx
  | _ => none
@[go_sem] theorem ovS4_66 : ovS4 66 = some gIdx := rfl
theorem baseS4 : Base Tryd.prog ovS4 := ⟨mix, noCount, ovSound_of fun f g hf args S e S' hg => by
  unfold ovS4 at hf
  split at hf <;> (try cases hf)
  unfold gIdx at hg
  split at hg
  · simp only [Option.some.injEq, Prod.mk.injEq] at hg
    obtain ⟨rfl, rfl⟩ := hg
    exact (idx66_T _ _).fun noCount Tryd.func66 rfl
  · cases hg⟩

theorem idxB_lt : ∀ (s : List UInt8) (k i : Nat), idxB s 47 k = .ofNat i → k ≤ i ∧ i < k + s.length
  | [], k, i, h => by simp only [idxB] at h; cases h
  | c :: s, k, i, h => by
    simp only [idxB] at h
    split at h
    · have : k = i := by cases h; rfl
      subst this
      simp
    · have := idxB_lt s (k + 1) i h
      simp only [List.length_cons]
      omega

set_option maxRecDepth 10000 in
theorem cut65_T {args : List VV} {S S' : St} {e : En} (h : gCut args S = some (e, S')) : Does Tryd.prog 65 args S e S' := by
  unfold gCut at h
  split at h
  · rename_i s
    split at h
    · rename_i hl
      simp only [Option.some.injEq, Prod.mk.injEq] at h
      obtain ⟨rfl, rfl⟩ := h
      have hl := Nat.le_of_ble_eq_true hl
      refine Does.of baseS4 Tryd.func65 rfl (n := 23) rfl fun hfr => ?_
      simp only [tr_setAll_cons, tr_setAll_nil, wp]
      refine walk (fun Q => by simp [go_sem]; rfl) (seqK_normal ?_)
      refine walk (fun Q => by simp [go_sem, gIdx]; rfl) (seqK_normal ?_)
      refine walk (fun Q => by simp [go_sem]; rfl) (seqK_normal ?_)
      cases hi : idxB s 47 0 with
      | ofNat i =>
        have hlt := (idxB_lt s 0 i hi).2
        have hs1 : sliceV Tryd.prog 9 (.str s) none (some (.int .i64 (i : Int))) none = some (.str (s.take i)) := slice9_to (by omega)
        have hs2 : sliceV Tryd.prog 9 (.str s) (some (.int .i64 ((i : Int) + 1))) none none = some (.str (s.drop (i + 1))) := by
          have := slice9_from (s := s) (i := i + 1) (by omega)
          simpa using this
        have hw : IntKind.i64.wrap ((i : Int) + 1) = (i : Int) + 1 := wrap_in (by omega) (by omega)
        refine onBool_true (by simp [go_sem, hi]) ?_
        refine CodeT.draw baseS4 (keep := fun _ => false) noKeep (cl := [0, 1, 2, 3, 4, 5, 6, 7, 8, 9, 10, 11]) (by kernel_rfl) (by rfl) (by rfl) ?_
        refine walk (fun Q => by simp [go_sem, hi, hs1, hw, hs2]; rfl) (panicAll_normal (seqK_normal ?_))
        exact seqK_ret ⟨rfl, [.str (s.take i), .str (s.drop (i + 1)), .bool true], by show resultsV _ _ _ [ResultVar.tmp 4, ResultVar.tmp 5, ResultVar.tmp 6] = _; simp [resultsV, go_sem], by simp [cutG, hi, oneOf], .refl _⟩
      | negSucc i =>
        refine onBool_false (by simp [go_sem, hi]) (seqK_normal ?_)
        refine walk (fun Q => by simp [go_sem]; rfl) (seqK_normal ?_)
        exact ⟨rfl, [.str s, .str [], .bool false], by show resultsV _ _ _ [ResultVar.tmp 4, ResultVar.tmp 5, ResultVar.tmp 6] = _; simp [resultsV, go_sem], by simp [cutG, hi, oneOf], .refl _⟩
    · cases h
  · cases h

def ovS5 : Ov := fun f => match f with
  | 65 => some gCut
  | _ => none
@[go_sem] theorem ovS5_65 : ovS5 65 = some gCut := rfl
theorem baseS5 : Base Tryd.prog ovS5 := ⟨mix, noCount, ovSound_of fun f g hf args S e S' hg => by
  unfold ovS5 at hf
  split at hf <;> (try cases hf)
  exact (cut65_T hg).fun noCount Tryd.func65 rfl⟩

set_option maxRecDepth 10000 in
theorem cut63_T {args : List VV} {S S' : St} {e : En} (h : gCut args S = some (e, S')) : Does Tryd.prog 63 args S e S' := by
  unfold gCut at h
  split at h
  · rename_i s
    split at h
    · rename_i hl
      simp only [Option.some.injEq, Prod.mk.injEq] at h
      obtain ⟨rfl, rfl⟩ := h
      refine Does.of baseS5 Tryd.func63 rfl (n := 13) rfl fun hfr => ?_
      simp only [tr_setAll_cons, tr_setAll_nil, wp]
      refine walk (fun Q => by simp [go_sem]; rfl) (seqK_normal ?_)
      refine walk (fun Q => by simp [go_sem, gCut, hl]; rfl) (seqK_normal ?_)
      exact ⟨rfl, [.str (cutG s).1, .str (cutG s).2.1, .bool (cutG s).2.2], by show resultsV _ _ _ [ResultVar.tmp 4, ResultVar.tmp 5, ResultVar.tmp 6] = _; simp [resultsV, go_sem], rfl, .refl _⟩
    · cases h
  · cases h

end Go.Proofs.YtgdpedfahfmjeaaDoor

/-
  What split comes to (1): what it reckons; how many runes a name has.
-/
namespace Go.Proofs.YtgdpedfahfmjeaaDoor
open Go Go.Vm

/-- how many runes, and is one of them nought? -/
def runesGo (s : List UInt8) : Nat → Nat → Nat → Bool → Nat × Bool
  | 0, _, n, z => (n, z)
  | f + 1, pos, n, z => match Nat.blt pos s.length with
    | true => match Utf8.decode ⟨s.toArray⟩ pos with
      | (c, w) => runesGo s f (pos + w) (n + 1) (z || Nat.beq c 0)
    | false => (n, z)
def runesG (s : List UInt8) : Nat × Bool := runesGo s (s.length + 1) 0 0 false

/-- may a name be? -/
def mayG (s more : List UInt8) (slash : Bool) : Bool :=
  Nat.ble 1 (runesG s).1 && Nat.ble (runesG s).1 16 && !(runesG s).2 && !strEq s [46] && !strEq s [46, 46] && !(slash && strEq more [])

/-- the names of what is left, behind those that are there: none, if it may not be -/
def splitGo : Nat → List UInt8 → List (List UInt8) → Option (List (List UInt8))
  | 0, _, _ => none
  | f + 1, rest, acc => match rest with
    | [] => some acc
    | c :: rest => match cutG (c :: rest) with
      | (s, more, slash) => match mayG s more slash && Nat.blt acc.length 8 with
        | true => match slash with
          | true => splitGo f more (acc ++ [s])
          | false => some (acc ++ [s])
        | false => none

/-- the names of a path; none: it may not be -/
def splitG (path : List UInt8) : Option (List (List UInt8)) := match slashed path && Nat.ble path.length 600 && Lib.validD path with
  | true => splitGo (path.length + 1) (unslash path) []
  | false => none

theorem runesGo_count {s : List UInt8} : ∀ {f pos n : Nat} {z : Bool}, (runesGo s f pos n z).1 ≤ n + f
  | 0, pos, n, z => by simp [runesGo]
  | f + 1, pos, n, z => by
    simp only [runesGo]
    split
    · have := runesGo_count (s := s) (f := f) (pos := pos + (Utf8.decode ⟨s.toArray⟩ pos).2) (n := n + 1) (z := z || Nat.beq (Utf8.decode ⟨s.toArray⟩ pos).1 0)
      omega
    · simp only []; omega

theorem cutG_more {c : UInt8} {s : List UInt8} : (cutG (c :: s)).2.1.length < (c :: s).length := by
  unfold cutG
  split
  · rename_i i hi
    simp only [List.length_drop, List.length_cons]
    omega
  · simp

end Go.Proofs.YtgdpedfahfmjeaaDoor

/-
  What split comes to (2): going over a path's names.
-/
namespace Go.Proofs.YtgdpedfahfmjeaaDoor
open Go Go.Vm

def ovT : Ov := fun f => match f with
  | 62 => some gTrim
  | 63 => some gCut
  | 51 => some gHas
  | 52 => some gValid
  | f => ovE f
@[go_sem] theorem ovT62 : ovT 62 = some gTrim := rfl
@[go_sem] theorem ovT63 : ovT 63 = some gCut := rfl
@[go_sem] theorem ovT51 : ovT 51 = some gHas := rfl
@[go_sem] theorem ovT52 : ovT 52 = some gValid := rfl
@[go_sem] theorem ovT25 : ovT 25 = some gNo := rfl
theorem ovT_sound : OvSound Tryd.prog ovT := by
  refine ovSound_of fun f g hf args S e S' hg => ?_
  unfold ovT at hf
  split at hf
  · cases hf; exact (trim62_T hg).fun noCount Tryd.func62 rfl
  · cases hf; exact (cut63_T hg).fun noCount Tryd.func63 rfl
  · cases hf; exact (has51_T hg).fun noCount Tryd.func51 rfl
  · cases hf; exact valid_T hg
  · exact ovE_sound f g args S e S' hf hg
theorem baseT : Base Tryd.prog ovT := ⟨mix, noCount, ovT_sound⟩

@[go_sem] theorem und21i (S : St) (s : List UInt8) : rangeV Tryd.prog S 9 (.str s) = some (.ptr (some (S.nx, 0)), { h := S.h.set S.nx (.strIter s 0), nx := S.nx + 1 }) := by
  simp only [rangeV, und9, Tr.with_eq]

/-- one operation -/
theorem walk_one {P : Program} {ov : Ov} {fi : FI} {ops : Array Oper} {dst : Option Tmp} {op : Op} {ty : TypeId} {pos : String} {after : Array Edge} {l : List Oper} {fr fr1 : Fr} {S S1 : St} {Q : ExQ}
    (h : ∀ K Q, wpOper P ov fi { dst := dst, op := op, type := ty, pos := pos, after := after, guard := none } fr S K Q = K fr1 S1) (hq : wpOpers P ov fi ops l fr1 S1 Q) :
    wpOpers P ov fi ops ({ dst := dst, op := op, type := ty, pos := pos, after := after, guard := none } :: l) fr S Q := by
  rw [wpOpers_cons, h]; exact hq

set_option maxRecDepth 10000 in
set_option maxHeartbeats 2000000 in
theorem steps_T {lp B : Nat} {path : List UInt8} (hp : slashed path = true) (hlen : path.length ≤ 600) (SPf : List (List UInt8) → St) (Sfail : St) (hB : ∀ acc, cellAt (SPf acc) B 0 = some (.str path))
    (hround : ∀ acc s may, acc.length ≤ 8 → RoundT Tryd.prog lp [.str s, .bool may] { h := (SPf acc).h, nx := (SPf acc).nx + 1 } fun e S' => match may && Nat.blt acc.length 8 with
      | true => e = .returned (.bool true) ∧ S' = SPf (acc ++ [s])
      | false => e = .panicked (refusedV 22) ∧ S' = Sfail) :
    CallT Tryd.prog 61 [.func (.yield lp) [] [], .ptr (some (B, 0))] none (SPf []) fun e _ S1 => match splitGo (path.length + 1) (unslash path) [] with
      | some names => e = .returned (.tuple []) ∧ Within (SPf names) S1
      | none => e = .panicked (refusedV 22) ∧ Within Sfail S1 := by
  refine CallT.plain (R := fun e S1 => match splitGo (path.length + 1) (unslash path) [] with
      | some names => e = .returned (.tuple []) ∧ Within (SPf names) S1
      | none => e = .panicked (refusedV 22) ∧ Within Sfail S1) Tryd.func61 rfl ?_
  rw [frameV_eq, show Nat.max Tryd.f61.ntmps _ = 75 from rfl]
  simp only [tr_setAll_cons, tr_setAll_nil]
  have hune : (unslash path).length ≤ path.length := by
    unfold unslash
    split
    · simp
    · exact Nat.le_refl _
  generalize hr : splitGo (path.length + 1) (unslash path) [] = r
  refine CodeT.seq (wp_sound baseT _ ?_)
  simp only [wp]
  obtain ⟨c0, n0, t0, ro0, mk0, b1, b2⟩ := cellAt_some (hB [])
  refine walk (fun Q => by simp [go_sem, b1, b2, gTrim]; rfl) ?_
  simp only []
  refine CodeT.block ?_
  refine CodeT.forget (fr' := ⟨((Tr.nil.set 0 (.func (.yield lp) [] [])).set 1 (.ptr (some (B, 0)))).set 3 (.str (unslash path)), 75, [], none⟩)
    (frIn_set (frIn_set (frIn_set frIn_nil (by simp [go_sem])) (by simp [go_sem])) (by simp [go_sem])) (Within.refl _) ?_
  refine CodeT.loop_inv (I := fun m fr S' => ∃ rest acc, rest.length < m ∧ rest.length ≤ 600 ∧ acc.length ≤ 8 ∧ splitGo m rest acc = r ∧ S' = SPf acc ∧
    fr = ⟨((Tr.nil.set 0 (.func (.yield lp) [] [])).set 1 (.ptr (some (B, 0)))).set 3 (.str rest), 75, [], none⟩) ?_ (path.length + 1) _ _ ⟨unslash path, [], by omega, by omega, by simp, hr, rfl, rfl⟩
  rintro m fr S1 ⟨rest, acc, hm, h600, hacc, hgo, rfl, rfl⟩
  obtain ⟨f, rfl⟩ : ∃ f, m = f + 1 := ⟨m - 1, by omega⟩
  refine CodeT.of_fresh fun hfr => ?_
  obtain ⟨c, n, t, ro, mk, b1, b2⟩ := cellAt_some (hB acc)
  have hpl : ((path.length : Int) == 0) = false := by
    cases path with
    | nil => simp [slashed] at hp
    | cons x y => simp; omega
  refine CodeT.seq (wp_sound baseT _ ?_)
  simp only [wp]
  cases rest with
  | nil =>
    simp only [splitGo] at hgo
    subst hgo
    refine walk (fun Q => by simp [go_sem, b1, b2, strEq, hpl]; rfl) (seqK_normal ?_)
    refine onBool_false (by simp [go_sem]) ?_
    simp only [Nat.beq_refl]
    exact ⟨rfl, [], rfl, rfl, .refl _⟩
  | cons ch rest =>
    refine walk (fun Q => by simp [go_sem, strEq]; rfl) (seqK_normal ?_)
    refine onBool_true (by simp [go_sem]) ?_
    refine CodeT.block ?_
    simp only [splitGo] at hgo
    have hmore := cutG_more (c := ch) (s := rest)
    obtain ⟨s, more, slash, hcut⟩ : ∃ s more slash, cutG (ch :: rest) = (s, more, slash) := ⟨_, _, _, rfl⟩
    simp only [hcut] at hgo hmore
    have hbig : Nat.ble (ch :: rest).length 1000000 = true := by rw [Nat.ble_eq]; omega
    have hgc : gCut [.str (ch :: rest), .str [47]] (SPf acc) = some (.returned (.tuple [.str s, .str more, .bool slash]), SPf acc) := by simp only [gCut, hbig, hcut]
    refine CodeT.seq (wp_sound baseT _ ?_)
    simp only [wp]
    refine walk (fun Q => by simp [go_sem, hgc]; rfl) ?_
    refine CodeT.seq (wp_sound baseT _ ?_)
    simp only [wp]
    refine walk (fun Q => by simp [go_sem]; rfl) ?_
    refine CodeT.forget (fr' := ⟨(((((((Tr.nil.set 0 (.func (.yield lp) [] [])).set 1 (.ptr (some (B, 0)))).set 3 (.str (ch :: rest))).set 4 (.str s)).set 5 (.str more)).set 6 (.bool slash)).set 7 (.int .i64 0)).set 8 (.bool false), 75, [], none⟩)
      (frIn_set (frIn_set (frIn_set (frIn_set (frIn_set (frIn_set (frIn_set (frIn_set frIn_nil (by simp [go_sem])) (by simp [go_sem])) (by simp [go_sem])) (by simp [go_sem])) (by simp [go_sem])) (by simp [go_sem])) (by simp [go_sem])) (by simp [go_sem])) (Within.refl _) ?_
    -- the runes
    refine CodeT.seq ?_
    have hslen : s.length ≤ 600 := by
      have : s.length ≤ (ch :: rest).length := by
        have := congrArg (fun x => x.1.length) hcut
        simp only at this
        rw [← this]
        unfold cutG
        split
        · simp only [List.length_take]; omega
        · exact Nat.le_refl _
      omega
    refine CodeT.mono (Q := fun x fr' S' => x = .normal ∧ S' = { h := (SPf acc).h, nx := (SPf acc).nx + 1 } ∧
      fr' = ⟨(((((((Tr.nil.set 0 (.func (.yield lp) [] [])).set 1 (.ptr (some (B, 0)))).set 3 (.str (ch :: rest))).set 4 (.str s)).set 5 (.str more)).set 6 (.bool slash)).set 7 (.int .i64 ((runesG s).1 : Int))).set 8 (.bool (runesG s).2), 75, [], none⟩) ?_ ?_
    · refine CodeT.seq (wp_sound baseT _ ?_)
      simp only [wp]
      refine walk (fun Q => by simp [go_sem]; rfl) ?_
      refine CodeT.block ?_
      refine CodeT.forget (fr' := ⟨((((((((Tr.nil.set 0 (.func (.yield lp) [] [])).set 1 (.ptr (some (B, 0)))).set 3 (.str (ch :: rest))).set 4 (.str s)).set 5 (.str more)).set 6 (.bool slash)).set 7 (.int .i64 ((0 : Nat) : Int))).set 8 (.bool false)).set 28 (.ptr (some ((SPf acc).nx, 0))), 75, [], none⟩)
        (frIn_set (frIn_set (frIn_set (frIn_set (frIn_set (frIn_set (frIn_set (frIn_set (frIn_set frIn_nil (by simp [go_sem])) (by simp [go_sem])) (by simp [go_sem])) (by simp [go_sem])) (by simp [go_sem])) (by simp [go_sem])) (by simp [go_sem])) (by simp [go_sem])) (by simp [go_sem])) (Within.refl _) ?_
      refine CodeT.post (fun x fr' S' => x = .exit 2 ∧ S' = { h := (SPf acc).h, nx := (SPf acc).nx + 1 } ∧
        fr' = ⟨(((((((Tr.nil.set 0 (.func (.yield lp) [] [])).set 1 (.ptr (some (B, 0)))).set 3 (.str (ch :: rest))).set 4 (.str s)).set 5 (.str more)).set 6 (.bool slash)).set 7 (.int .i64 ((runesG s).1 : Int))).set 8 (.bool (runesG s).2), 75, [], none⟩) ?_ ?_
      · refine CodeT.loop_inv (I := fun m fr S' => ∃ pos k z, s.length + 1 ≤ pos + m ∧ k ≤ pos ∧ k + m ≤ s.length + 1 ∧ runesGo s m pos k z = runesG s ∧ S' = { h := (SPf acc).h.set (SPf acc).nx (.strIter s pos), nx := (SPf acc).nx + 1 } ∧
          fr = ⟨((((((((Tr.nil.set 0 (.func (.yield lp) [] [])).set 1 (.ptr (some (B, 0)))).set 3 (.str (ch :: rest))).set 4 (.str s)).set 5 (.str more)).set 6 (.bool slash)).set 7 (.int .i64 ((k : Nat) : Int))).set 8 (.bool z)).set 28 (.ptr (some ((SPf acc).nx, 0))), 75, [], none⟩) ?_ (s.length + 1) _ _
          ⟨0, 0, false, by omega, by omega, by omega, rfl, rfl, rfl⟩
        rintro m fr S1 ⟨pos, k, z, hpm, hkp, hkm, hrun, rfl, rfl⟩
        refine wp_sound baseT _ ?_
        simp only [wp]
        by_cases hpos : pos < s.length
        · obtain ⟨m', rfl⟩ : ∃ m', m = m' + 1 := ⟨m - 1, by omega⟩
          have hb : Nat.blt pos s.length = true := by rw [Nat.blt_eq]; exact hpos
          simp only [runesGo, hb] at hrun
          obtain ⟨cc, w, hdec⟩ : ∃ cc w, Utf8.decode ⟨s.toArray⟩ pos = (cc, w) := ⟨_, _, rfl⟩
          have hw1 : 1 ≤ w := by
            have := Lib.decode_width_pos ⟨s.toArray⟩ pos (by simpa [ByteArray.size] using hpos)
            rw [hdec] at this
            exact this
          simp only [hdec] at hrun
          refine walk_next (L := [(.tuple [.bool true, .int .i64 pos, .int .i32 cc], { h := ((SPf acc).h.set (SPf acc).nx (.strIter s pos)).set (SPf acc).nx (.strIter s (pos + w)), nx := (SPf acc).nx + 1 })]) (by
            rw [ev_tmp]
            have := nextV_str (S := { h := (SPf acc).h.set (SPf acc).nx (.strIter s pos), nx := (SPf acc).nx + 1 }) (r := (SPf acc).nx) (by simp [tr_get_set]) hpos
            rw [hdec] at this
            simpa [tr_get_set] using this) ?_
          intro v S1 hm
          obtain ⟨rfl, rfl⟩ : v = _ ∧ S1 = _ := by simpa using hm
          refine ⟨_, by simp [go_sem]; rfl, ?_⟩
          refine walk (fun Q => by simp [go_sem]; rfl) (seqK_normal ?_)
          refine onBool_true (by simp [go_sem]) (seqK_normal ?_)
          refine walk (fun Q => by simp [go_sem]; rfl) (seqK_normal ?_)
          have hk1 : IntKind.i64.wrap ((k : Int) + 1) = ((k + 1 : Nat) : Int) := by rw [wrap_in (by omega) (by omega)]; rfl
          refine walk (fun Q => by simp [go_sem]; rfl) (seqK_normal ?_)
          have hwi : Within { h := (SPf acc).h.set (SPf acc).nx (.strIter s (pos + w)), nx := (SPf acc).nx + 1 } { h := ((SPf acc).h.set (SPf acc).nx (.strIter s pos)).set (SPf acc).nx (.strIter s (pos + w)), nx := (SPf acc).nx + 1 } :=
            within_of (fun id o q => by simp only [tr_get_set] at q ⊢; split at q <;> rename_i h <;> simp [h, q]) (Nat.le_refl _)
          have hz : ∀ b, b = (z || Nat.beq cc 0) → runesGo s m' (pos + w) (k + 1) b = runesG s := fun b e => by rw [e]; exact hrun
          cases z with
          | true =>
            refine walk (fun Q => by simp [go_sem]; rfl) (blockK_normal ?_)
            exact ⟨m', _, _, by omega, frIn_set (frIn_set (frIn_set (frIn_set (frIn_set (frIn_set (frIn_set (frIn_set (frIn_set frIn_nil (by simp [go_sem])) (by simp [go_sem])) (by simp [go_sem])) (by simp [go_sem])) (by simp [go_sem])) (by simp [go_sem])) (by simp [go_sem]; exact hk1)) (by simp [go_sem])) (by simp [go_sem]),
              hwi, pos + w, k + 1, true, by omega, by omega, by omega, hz true (by simp), rfl, rfl⟩
          | false =>
            refine walk (fun Q => by simp [go_sem]; rfl) (blockK_normal ?_)
            refine ⟨m', _, _, by omega, frIn_set (frIn_set (frIn_set (frIn_set (frIn_set (frIn_set (frIn_set (frIn_set (frIn_set frIn_nil (by simp [go_sem])) (by simp [go_sem])) (by simp [go_sem])) (by simp [go_sem])) (by simp [go_sem])) (by simp [go_sem])) (by simp [go_sem]; exact hk1)) (by simp [go_sem]; rfl)) (by simp [go_sem]),
              hwi, pos + w, k + 1, _, by omega, by omega, by omega, hz _ ?_, rfl, rfl⟩
            cases cc with
            | zero => rfl
            | succ cc =>
              rw [show ((((cc + 1 : Nat) : Int)) == 0) = false from by rw [beq_eq_false_iff_ne]; omega, show Nat.beq (cc + 1) 0 = false from rfl]; rfl
        · have hfin : (k, z) = runesG s := by
            rw [← hrun]
            cases m with
            | zero => rfl
            | succ m => simp only [runesGo]; rw [show Nat.blt pos s.length = false from by rw [Bool.eq_false_iff, ne_eq, Nat.blt_eq]; exact hpos]
          refine walk_next (L := [(.tuple [.bool false], { h := (SPf acc).h.set (SPf acc).nx (.strIter s pos), nx := (SPf acc).nx + 1 })]) (by
            rw [ev_tmp]
            have := nextV_str_end (S := { h := (SPf acc).h.set (SPf acc).nx (.strIter s pos), nx := (SPf acc).nx + 1 }) (r := (SPf acc).nx) (s := s) (pos := pos) (by simp [tr_get_set]) hpos
            simpa [tr_get_set] using this) ?_
          intro v S1 hm
          obtain ⟨rfl, rfl⟩ : v = _ ∧ S1 = _ := by simpa using hm
          refine ⟨_, by simp [go_sem]; rfl, ?_⟩
          refine walk (fun Q => by simp [go_sem]; rfl) (seqK_normal ?_)
          refine onBool_false (by simp [go_sem]) (seqK_exit ?_)
          rw [← hfin]
          refine ⟨_, _, frIn_set (frIn_set (frIn_set (frIn_set (frIn_set (frIn_set (frIn_set (frIn_set frIn_nil (by simp [go_sem])) (by simp [go_sem])) (by simp [go_sem])) (by simp [go_sem])) (by simp [go_sem])) (by simp [go_sem])) (by simp [go_sem])) (by simp [go_sem]), ?_, rfl, rfl, rfl⟩
          refine within_of (fun id o q => ?_) (Nat.le_refl _)
          have := hfr id o q
          simp only [tr_get_set]
          rw [if_neg (by omega)]
          exact q
      · rintro x fr' S' ⟨rfl, rfl, rfl⟩
        exact ⟨rfl, rfl, rfl⟩
    rintro x fr' S' ⟨rfl, rfl, rfl⟩
    simp only []
    have hn : (runesG s).1 ≤ 601 := by
      have := runesGo_count (s := s) (f := s.length + 1) (pos := 0) (n := 0) (z := false)
      unfold runesG; omega
    refine CodeT.seq ?_
    refine CodeT.mono (Q := fun x fr' S' => x = .normal ∧ S' = { h := (SPf acc).h, nx := (SPf acc).nx + 1 } ∧
      fr' = ⟨((((((Tr.nil.set 0 (.func (.yield lp) [] [])).set 1 (.ptr (some (B, 0)))).set 4 (.str s)).set 5 (.str more)).set 6 (.bool slash))).set 11 (.bool (mayG s more slash)), 75, [], none⟩) ?_ ?_
    · refine CodeT.post (fun x fr' S' => x = .normal ∧ S' = { h := (SPf acc).h, nx := (SPf acc).nx + 1 } ∧
        fr' = ⟨((((((Tr.nil.set 0 (.func (.yield lp) [] [])).set 1 (.ptr (some (B, 0)))).set 4 (.str s)).set 5 (.str more)).set 6 (.bool slash))).set 11 (.bool (mayG s more slash)), 75, [], none⟩) ?_ (fun x fr' S' h => h)
      generalize hm : mayG s more slash = may
      simp only [mayG] at hm
      generalize (runesG s).1 = n at hm hn ⊢
      generalize (runesG s).2 = z at hm ⊢
      have fin : ∀ (fr : Fr), FrIn ⟨((((((Tr.nil.set 0 (.func (.yield lp) [] [])).set 1 (.ptr (some (B, 0)))).set 4 (.str s)).set 5 (.str more)).set 6 (.bool slash))).set 11 (.bool may), 75, [], none⟩ fr →
          ∃ fr' S', FrIn fr' fr ∧ Within S' ({ h := (SPf acc).h, nx := (SPf acc).nx + 1 } : St) ∧ Ex.normal = Ex.normal ∧ S' = { h := (SPf acc).h, nx := (SPf acc).nx + 1 } ∧
            fr' = ⟨((((((Tr.nil.set 0 (.func (.yield lp) [] [])).set 1 (.ptr (some (B, 0)))).set 4 (.str s)).set 5 (.str more)).set 6 (.bool slash))).set 11 (.bool may), 75, [], none⟩ :=
        fun fr h => ⟨_, _, h, .refl _, rfl, rfl, rfl⟩
      refine wp_sound baseT _ ?_
      simp only [wp]
      cases h1 : Nat.ble 1 n with
      | false =>
        have i1 : decide ((1 : Int) ≤ (n : Int)) = false := by rw [Bool.eq_false_iff, ne_eq, Nat.ble_eq] at h1; rw [decide_eq_false_iff_not]; omega
        rw [h1] at hm; simp at hm; subst hm
        refine walk (fun Q => by simp [go_sem, i1]; rfl) ?_
        exact fin _ (frIn_set (frIn_set (frIn_set (frIn_set (frIn_set (frIn_set frIn_nil (by simp [go_sem])) (by simp [go_sem])) (by simp [go_sem])) (by simp [go_sem])) (by simp [go_sem])) (by simp [go_sem]))
      | true =>
      have i1 : decide ((1 : Int) ≤ (n : Int)) = true := by rw [Nat.ble_eq] at h1; rw [decide_eq_true_iff]; omega
      cases h2 : Nat.ble n 16 with
      | false =>
        have i2 : decide ((n : Int) ≤ 16) = false := by rw [Bool.eq_false_iff, ne_eq, Nat.ble_eq] at h2; rw [decide_eq_false_iff_not]; omega
        rw [h1, h2] at hm; simp at hm; subst hm
        refine walk (fun Q => by simp [go_sem, i1, i2]; rfl) ?_
        exact fin _ (frIn_set (frIn_set (frIn_set (frIn_set (frIn_set (frIn_set frIn_nil (by simp [go_sem])) (by simp [go_sem])) (by simp [go_sem])) (by simp [go_sem])) (by simp [go_sem])) (by simp [go_sem]))
      | true =>
      have i2 : decide ((n : Int) ≤ 16) = true := by rw [Nat.ble_eq] at h2; rw [decide_eq_true_iff]; omega
      cases z with
      | true =>
        rw [h1, h2] at hm; simp at hm; subst hm
        refine walk (fun Q => by simp [go_sem, i1, i2]; rfl) ?_
        exact fin _ (frIn_set (frIn_set (frIn_set (frIn_set (frIn_set (frIn_set frIn_nil (by simp [go_sem])) (by simp [go_sem])) (by simp [go_sem])) (by simp [go_sem])) (by simp [go_sem])) (by simp [go_sem]))
      | false =>
      cases h4 : strEq s [46] with
      | true =>
        rw [h1, h2, h4] at hm; simp at hm; subst hm
        refine walk (fun Q => by simp [go_sem, i1, i2, h4]; rfl) ?_
        exact fin _ (frIn_set (frIn_set (frIn_set (frIn_set (frIn_set (frIn_set frIn_nil (by simp [go_sem])) (by simp [go_sem])) (by simp [go_sem])) (by simp [go_sem])) (by simp [go_sem])) (by simp [go_sem]))
      | false =>
      cases h5 : strEq s [46, 46] with
      | true =>
        rw [h1, h2, h4, h5] at hm; simp at hm; subst hm
        refine walk (fun Q => by simp [go_sem, i1, i2, h4, h5]; rfl) ?_
        exact fin _ (frIn_set (frIn_set (frIn_set (frIn_set (frIn_set (frIn_set frIn_nil (by simp [go_sem])) (by simp [go_sem])) (by simp [go_sem])) (by simp [go_sem])) (by simp [go_sem])) (by simp [go_sem]))
      | false =>
      cases slash with
      | false =>
        rw [h1, h2, h4, h5] at hm; simp at hm; subst hm
        refine walk (fun Q => by simp [go_sem, i1, i2, h4, h5]; rfl) ?_
        exact fin _ (frIn_set (frIn_set (frIn_set (frIn_set (frIn_set (frIn_set frIn_nil (by simp [go_sem])) (by simp [go_sem])) (by simp [go_sem])) (by simp [go_sem])) (by simp [go_sem])) (by simp [go_sem]))
      | true =>
      cases h7 : strEq more [] with
      | true =>
        rw [h1, h2, h4, h5, h7] at hm; simp at hm; subst hm
        refine walk (fun Q => by simp [go_sem, i1, i2, h4, h5, h7]; rfl) ?_
        exact fin _ (frIn_set (frIn_set (frIn_set (frIn_set (frIn_set (frIn_set frIn_nil (by simp [go_sem])) (by simp [go_sem])) (by simp [go_sem])) (by simp [go_sem])) (by simp [go_sem])) (by simp [go_sem]))
      | false =>
        rw [h1, h2, h4, h5, h7] at hm; simp at hm; subst hm
        refine walk (fun Q => by simp [go_sem, i1, i2, h4, h5, h7]; rfl) ?_
        exact fin _ (frIn_set (frIn_set (frIn_set (frIn_set (frIn_set (frIn_set frIn_nil (by simp [go_sem])) (by simp [go_sem])) (by simp [go_sem])) (by simp [go_sem])) (by simp [go_sem])) (by simp [go_sem]))
    rintro x fr' S' ⟨rfl, rfl, rfl⟩
    simp only []
    refine CodeT.seq ?_
    refine wp_sound baseT _ ?_
    simp only [wp]
    refine walk_one (fun K Q => by simp [go_sem]; rfl) ?_
    refine walk_one (fun K Q => by simp [go_sem]; rfl) ?_
    refine walk_one (fun K Q => by simp [go_sem]; rfl) ?_
    refine walk_yield (by simp [go_sem, calleeV]) (hround acc s (mayG s more slash) hacc) ?_
    intro e S' he
    cases hb : mayG s more slash && Nat.blt acc.length 8 with
    | false =>
      rw [hb] at he hgo
      obtain ⟨rfl, rfl⟩ := he
      subst hgo
      exact ⟨rfl, rfl, .refl _⟩
    | true =>
      rw [hb] at he hgo
      obtain ⟨rfl, rfl⟩ := he
      simp only [] at hgo
      refine ⟨_, by simp [go_sem]; rfl, ?_⟩
      cases slash with
      | false =>
        simp only [] at hgo
        subst hgo
        refine walk (fun Q => by simp [go_sem]; rfl) (seqK_normal ?_)
        refine onBool_true (by simp [go_sem]) ?_
        exact ⟨rfl, [], rfl, rfl, .refl _⟩
      | true =>
        simp only [] at hgo
        refine walk (fun Q => by simp [go_sem]; rfl) (seqK_normal ?_)
        refine onBool_false (by simp [go_sem]) ?_
        refine wp_sound baseT _ ?_
        simp only [wp]
        refine walk (fun Q => by simp [go_sem]; rfl) ?_
        exact ⟨f, _, _, by omega, frIn_set (frIn_set (frIn_set frIn_nil (by simp [go_sem])) (by simp [go_sem])) (by simp [go_sem]), .refl _, more, _, by omega, by omega, by rw [Bool.and_eq_true, Nat.blt_eq] at hb; simp only [List.length_append, List.length_singleton]; omega, hgo, rfl, rfl⟩

end Go.Proofs.YtgdpedfahfmjeaaDoor

/-
  What split comes to (3): split itself.
-/
namespace Go.Proofs.YtgdpedfahfmjeaaDoor
open Go Go.Vm

/-- the list of the names up to now -/
def listV (N : Nat) (acc : List (List UInt8)) : VV := match acc with
  | [] => .slice none 0 (.just 0)
  | s :: acc => .slice (some (N + 3 + 3 * (acc.length + 1), 0)) (acc.length + 1) (.rest 1)
def rowS (N : Nat) (acc : List (List UInt8)) (h : Tr VObj) : Tr VObj := match acc with
  | [] => h
  | s :: acc => h.set (N + 3 + 3 * (acc.length + 1)) (.cells (Tr.ofList ((s :: acc).map .str)) (acc.length + 1) 9 false false)
def boxesS (S : St) (path : List UInt8) (acc : List (List UInt8)) : Tr VObj := (((S.h.set S.nx (.cells (Tr.nil.set 0 (listV S.nx acc)) 1 48 false false)).set (S.nx + 1) (.cells (Tr.nil.set 0 (.str path)) 1 9 false false)).set (S.nx + 2) (.deferred (some [])))
def SP (S : St) (lo : VLoop) (path : List UInt8) (acc : List (List UInt8)) : St :=
  { h := rowS S.nx acc ((boxesS S path acc).set (S.nx + 3) (.loop lo)), nx := S.nx + 4 + 3 * acc.length }

@[go_sem] theorem zero48 : zeroV Tryd.prog 48 = some (.slice none 0 (.just 0)) := by kernel_rfl
@[go_sem] theorem agg48 : isAggV Tryd.prog 48 = some false := by kernel_rfl
@[go_sem] theorem size48 : sizeV Tryd.prog 48 = some 1 := by kernel_rfl
theorem bytes9 : bytesV Tryd.prog 9 = some 16 := by kernel_rfl
theorem zok9 : zeroOk Tryd.prog 9 (0 + 1) = true := by kernel_rfl
theorem zrow9 : zeroRowV Tryd.prog 9 (1 * 1) = some [.str []] := by kernel_rfl
@[go_sem] theorem bs48 (S : St) (s : List UInt8) : buildSliceV Tryd.prog S 48 1 [(0, .str s)] = some (.slice (some (S.nx, 0)) 1 (.just 1), { h := S.h.set S.nx (.cells (Tr.nil.set 0 (.str s)) 1 9 false false), nx := S.nx + 1 }) := by
  simp only [buildSliceV, und48, size9, zrow9, newRowV_eq]
  rfl

theorem appended1 {S : St} {r : Nat} {s : List UInt8} (h : S.h.get r = some (.cells (Tr.nil.set 0 (.str s)) 1 9 false false)) : appendedV Tryd.prog S 48 9 1 (.slice (some (r, 0)) 1 (.just 1)) = some ([.str s], 1) := by
  simp only [appendedV, und48, lenOfV, firstV, loadV, h]
  rfl

theorem ap_first {S : St} {r : Nat} {s : List UInt8} (h : S.h.get r = some (.cells (Tr.nil.set 0 (.str s)) 1 9 false false)) :
    appendV Tryd.prog S [48, 48] [.slice none 0 (.just 0), .slice (some (r, 0)) 1 (.just 1)] = some (.slice (some (S.nx, 0)) 1 (.rest 1), { h := S.h.set S.nx (.cells (Tr.ofList [.str s]) 1 9 false false), nx := S.nx + 1 }) := by
  simp only [appendV, und48, size9, bytes9, zok9, appended1 h]
  rw [show roomV (0 + 1) 16 = true from by kernel_rfl]
  simp [appendTo, newRowV_eq, allOne, VV.one]

theorem ap_next {S : St} {q r : Nat} {l : List VV} {s : List UInt8} (h1 : S.h.get q = some (.cells (Tr.ofList l) l.length 9 false false)) (h : S.h.get r = some (.cells (Tr.nil.set 0 (.str s)) 1 9 false false)) (hl : l.length ≤ 8)
    (ho : allOne (l ++ [.str s]) = true) :
    appendV Tryd.prog S [48, 48] [.slice (some (q, 0)) l.length (.rest 1), .slice (some (r, 0)) 1 (.just 1)] = some (.slice (some (S.nx, 0)) (l.length + 1) (.rest 1), { h := (S.h.del q).set S.nx (.cells (Tr.ofList (l ++ [.str s])) (l.length + 1) 9 false false), nx := S.nx + 1 }) := by
  have hrow : (Tr.ofList l).row 0 l.length = some l := by
    rw [Tr.row_spec]
    exact ⟨rfl, fun j _ => by rw [Nat.zero_add, Tr.get_ofList]⟩
  have hroom : roomV (l.length + 1) 16 = true := by
    simp only [roomV, Bool.and_eq_true, Nat.ble_eq]; omega
  simp only [appendV, und48, size9, bytes9, zok9, appended1 h, hroom]
  simp [appendTo, newRowV_eq, ho, h1, hrow, hroom]
  intro q; omega

theorem allOne_strs : ∀ (l : List (List UInt8)), allOne (l.map VV.str) = true
  | [] => rfl
  | s :: l => by simp only [List.map_cons, allOne, VV.one]; exact allOne_strs l

theorem walk_out {P : Program} {ov : Ov} {fi : FI} {ops : Array Oper} {l : List Oper} {fr fr' : Fr} {S S' : St} {Q0 : ExQ} {x : Ex} (h : ∀ Q : ExQ, wpOpers P ov fi ops l fr S Q = Q x fr' S') (hq : Q0 x fr' S') : wpOpers P ov fi ops l fr S Q0 := by
  rw [h Q0]; exact hq

/-- steps boxes its path -/
def gSteps : List VV → St → Option (En × St)
  | [.str s], S => some (.returned (.func (.func 61) [] [.ptr (some (S.nx, 0))]), { h := S.h.set S.nx (.cells (Tr.nil.set 0 (.str s)) 1 9 false false), nx := S.nx + 1 })
  | _, _ => none

theorem steps53_T {args : List VV} {S S' : St} {e : En} (h : gSteps args S = some (e, S')) : Does Tryd.prog 53 args S e S' := by
  unfold gSteps at h
  split at h
  · rename_i s
    simp only [Option.some.injEq, Prod.mk.injEq] at h
    obtain ⟨rfl, rfl⟩ := h
    refine Does.of baseT Tryd.func53 rfl (show Nat.max Tryd.f53.ntmps _ = 4 from rfl) fun hf => ?_
    simp only [wp]
    refine walk (fun Q => by simp [go_sem]; rfl) (seqK_normal ?_)
    refine walk (fun Q => by simp [go_sem]; rfl) (seqK_normal ?_)
    exact ⟨rfl, _, rfl, rfl, .refl _⟩
  · cases h

/-- a range over a function; what the loop is, told by its fields -/
theorem CodeT.rangeFunc' {P : Program} {S : St} {fi : FI} (hfi : fi.round = none) {f : Operand} {ps : Array Tmp} {x y : Code} {fr : Fr} {Q : ExQ} {g : FuncId} {first captured : List VV}
    (hv : fr.ev P.globals.size f = .func (.func g) first captured)
    (h : ∀ lo : VLoop, lo.state = .ready → lo.pending = none → lo.fn = fi.fn → lo.t = fr.t → lo.n = fr.n → lo.params = ps.toList → lo.assign = x → lo.body = y →
      FunT P g (first ++ [.func (.yield (S.nx + 1)) [] []] ++ captured) { h := (S.h.set S.nx (.deferred (some []))).set (S.nx + 1) (.loop lo), nx := S.nx + 2 }
      fun e S2 => match e with
        | .panicked ch => Q (.panic ch) { fr with ds := .collected S.nx :: fr.ds } S2
        | .returned _ => ∃ lo, loopAt S2 (S.nx + 1) = some lo ∧ lo.state ≠ .busy ∧ lo.pending = none ∧ Q .normal { fr with ds := .collected S.nx :: fr.ds } (putLoop S2 (S.nx + 1) { lo with state := .exhausted })) :
    CodeT P fi (.rangeFunc f ps x y) fr S Q := CodeT.rangeFunc hfi hv (h _ rfl rfl rfl rfl rfl rfl rfl rfl)

section
variable {S : St} {lo : VLoop} {p : List UInt8} {acc : List (List UInt8)}
theorem SP_list : (SP S lo p acc).h.get S.nx = some (.cells (Tr.nil.set 0 (listV S.nx acc)) 1 48 false false) := by
  cases acc <;> simp only [SP, rowS, boxesS, tr_get_set]
  · rw [if_neg (by omega), if_neg (by omega), if_neg (by omega), if_pos trivial]
  · rw [if_neg (by omega), if_neg (by omega), if_neg (by omega), if_neg (by omega), if_pos trivial]
theorem SP_path : (SP S lo p acc).h.get (S.nx + 1) = some (.cells (Tr.nil.set 0 (.str p)) 1 9 false false) := by
  cases acc <;> simp only [SP, rowS, boxesS, tr_get_set]
  · rw [if_neg (by omega), if_neg (by omega), if_pos trivial]
  · rw [if_neg (by omega), if_neg (by omega), if_neg (by omega), if_pos trivial]
theorem SP_def : (SP S lo p acc).h.get (S.nx + 2) = some (.deferred (some [])) := by
  cases acc <;> simp only [SP, rowS, boxesS, tr_get_set]
  · rw [if_neg (by omega), if_pos trivial]
  · rw [if_neg (by omega), if_neg (by omega), if_pos trivial]
theorem SP_loop : (SP S lo p acc).h.get (S.nx + 3) = some (.loop lo) := by
  cases acc <;> simp only [SP, rowS, boxesS, tr_get_set]
  · rw [if_pos trivial]
  · rw [if_neg (by omega), if_pos trivial]
theorem SP_row {s : List UInt8} : (SP S lo p (s :: acc)).h.get (S.nx + 3 + 3 * (acc.length + 1)) = some (.cells (Tr.ofList ((s :: acc).map .str)) (acc.length + 1) 9 false false) := by
  simp only [SP, rowS, boxesS, tr_get_set]
  rw [if_pos trivial]
theorem SP_old {id : Nat} (h : id < S.nx) : (SP S lo p acc).h.get id = S.h.get id := by
  cases acc <;> simp only [SP, rowS, boxesS, tr_get_set]
  · rw [if_neg (by omega), if_neg (by omega), if_neg (by omega), if_neg (by omega)]
  · rw [if_neg (by omega), if_neg (by omega), if_neg (by omega), if_neg (by omega), if_neg (by omega)]
theorem SP_within {T : St} (hfr : Fresh S) (hnx : T.nx ≤ S.nx + 4 + 3 * acc.length) (old : ∀ id, id < S.nx → T.h.get id = S.h.get id) (a0 : T.h.get S.nx = some (.cells (Tr.nil.set 0 (listV S.nx acc)) 1 48 false false))
    (a1 : T.h.get (S.nx + 1) = some (.cells (Tr.nil.set 0 (.str p)) 1 9 false false)) (a2 : T.h.get (S.nx + 2) = some (.deferred (some []))) (a3 : T.h.get (S.nx + 3) = some (.loop lo))
    (ar : ∀ s acc', acc = s :: acc' → T.h.get (S.nx + 3 + 3 * (acc'.length + 1)) = some (.cells (Tr.ofList ((s :: acc').map .str)) (acc'.length + 1) 9 false false)) : Within (SP S lo p acc) T := by
  refine within_of (fun id o q => ?_) hnx
  have base : (((boxesS S p acc).set (S.nx + 3) (.loop lo)).get id = some o) → T.h.get id = some o := by
    intro q
    simp only [boxesS, tr_get_set] at q
    split at q
    · rename_i e; rw [e, a3, ← q]
    · split at q
      · rename_i e; rw [e, a2, ← q]
      · split at q
        · rename_i e; rw [e, a1, ← q]
        · split at q
          · rename_i e; rw [e, a0, ← q]
          · rw [old id (hfr id o q)]; exact q
  cases acc with
  | nil => exact base q
  | cons s acc =>
    simp only [SP, rowS] at q
    rw [tr_get_set] at q
    split at q
    · rename_i e; rw [e, ar s acc rfl, ← q]
    · exact base q
theorem SP_nx : (SP S lo p acc).nx = S.nx + 4 + 3 * acc.length := rfl
end

def ovU : Ov := fun f => match f with
  | 53 => some gSteps
  | f => ovT f
@[go_sem] theorem ovU53 : ovU 53 = some gSteps := rfl
@[go_sem] theorem ovU51 : ovU 51 = some gHas := rfl
@[go_sem] theorem ovU52 : ovU 52 = some gValid := rfl
@[go_sem] theorem ovU25 : ovU 25 = some gNo := rfl
theorem ovU_sound : OvSound Tryd.prog ovU := by
  refine ovSound_of fun f g hf args S e S' hg => ?_
  unfold ovU at hf
  split at hf
  · cases hf; exact (steps53_T hg).fun noCount Tryd.func53 rfl
  · exact ovT_sound f g args S e S' hf hg
theorem baseU : Base Tryd.prog ovU := ⟨mix, noCount, ovU_sound⟩

def gSplit : List VV → St → Option (En × St)
  | [.str p], S => match tabsB S, Nat.ble p.length 1000000 with
    | true, true => match splitG p with
      | some names => some (.returned (listV S.nx names), { h := rowS S.nx names S.h, nx := S.nx + 40 })
      | none => some (.panicked (refusedV 22), S.up 40)
    | _, _ => none
  | _, _ => none

theorem splitGo_le : ∀ {f : Nat} {rest : List UInt8} {acc names : List (List UInt8)}, splitGo f rest acc = some names → acc.length ≤ 8 → names.length ≤ 8
  | 0, _, _, _, h, _ => by simp [splitGo] at h
  | f + 1, [], acc, names, h, hl => by simp only [splitGo, Option.some.injEq] at h; subst h; exact hl
  | f + 1, c :: rest, acc, names, h, hl => by
    simp only [splitGo] at h
    split at h
    · rename_i hb
      rw [Bool.and_eq_true, Nat.blt_eq] at hb
      split at h
      · exact splitGo_le h (by simp only [List.length_append, List.length_singleton]; omega)
      · simp only [Option.some.injEq] at h; subst h; simp only [List.length_append, List.length_singleton]; omega
    · cases h

set_option maxRecDepth 10000 in
set_option maxHeartbeats 2000000 in
theorem split_T {args : List VV} {S S' : St} {e : En} (h : gSplit args S = some (e, S')) : Does Tryd.prog 24 args S e S' := by
  unfold gSplit at h
  split at h
  · rename_i p
    split at h
    · rename_i htab hlen
      refine CallT.of_fresh fun hfr => CallT.func Tryd.func24 rfl ?_
      rw [frameV_eq, show Nat.max Tryd.f24.ntmps _ = 37 from rfl]
      simp only [tr_setAll_cons, tr_setAll_nil]
      refine CodeT.seq (wp_sound baseU _ ?_)
      simp only [wp]
      refine walk (fun Q => by simp [go_sem]; rfl) ?_
      refine CodeT.seq (wp_sound baseU _ ?_)
      simp only [wp]
      have hpn : ∀ (fr : Fr), splitG p = none → fr.ds = [] → UnwT Tryd.prog 24 (some (refusedV 22)) fr S fun e1 x S1 => e1 = e ∧ Within S' S1 := by
        intro fr hs hd
        rw [hs] at h
        simp only [Option.some.injEq, Prod.mk.injEq] at h
        obtain ⟨rfl, rfl⟩ := h
        exact .panics hd ⟨rfl, within_of (fun id o q => q) (by simp [go_sem])⟩
      cases h1 : slashed p with
      | false =>
        refine walk_out (x := .panic (refusedV 22)) (fun Q => by simp [go_sem, gHas, h1, gNo]; rfl) ?_
        exact hpn _ (by simp [splitG, h1]) rfl
      | true =>
      cases h2 : Nat.ble p.length 600 with
      | false =>
        have i2 : decide (600 < (p.length : Int)) = true := by rw [Bool.eq_false_iff, ne_eq, Nat.ble_eq] at h2; rw [decide_eq_true_iff]; omega
        refine walk_out (x := .panic (refusedV 22)) (fun Q => by simp [go_sem, gHas, h1, i2, gNo]; rfl) ?_
        exact hpn _ (by simp [splitG, h1, h2]) rfl
      | true =>
      have i2 : decide (600 < (p.length : Int)) = false := by rw [Nat.ble_eq] at h2; rw [decide_eq_false_iff_not]; omega
      cases h3 : Lib.validD p with
      | false =>
        refine walk_out (x := .panic (refusedV 22)) (fun Q => by simp [go_sem, gHas, h1, i2, gValid, htab, hlen, h3, gNo]; rfl) ?_
        exact hpn _ (by simp [splitG, h1, h2, h3]) rfl
      | true =>
      refine walk (fun Q => by simp [go_sem, gHas, h1, i2, gValid, htab, hlen, h3, gNo]; rfl) ?_
      have hsp : splitG p = splitGo (p.length + 1) (unslash p) [] := by simp [splitG, h1, h2, h3]
      refine CodeT.seq (wp_sound baseU _ ?_)
      simp only [wp]
      refine walk (fun Q => by simp [go_sem]; rfl) ?_
      refine CodeT.seq (CodeT.seq (wp_sound baseU _ ?_))
      simp only [wp]
      refine walk (fun Q => by simp [go_sem, gSteps]; rfl) ?_
      refine CodeT.block ?_
      refine CodeT.forget (fr' := ⟨((Tr.nil.set 0 (.str p)).set 3 (.ptr (some (S.nx, 0)))).set 21 (.func (.func 61) [] [.ptr (some (S.nx + 1, 0))]), 37, [], none⟩)
        (frIn_set (frIn_set (frIn_set frIn_nil (by simp [go_sem])) (by simp [go_sem])) (by simp [go_sem])) (Within.refl _) ?_
      refine CodeT.rangeFunc' rfl (g := 61) (first := []) (captured := [.ptr (some (S.nx + 1, 0))]) (by simp [go_sem]) ?_
      intro lo l1 l2 l3 l4 l5 l6 l7 l8
      have hround : ∀ acc s may, acc.length ≤ 8 → RoundT Tryd.prog (S.nx + 3) [.str s, .bool may] { h := (SP S lo p acc).h, nx := (SP S lo p acc).nx + 1 } fun e S' => match may && Nat.blt acc.length 8 with
          | true => e = .returned (.bool true) ∧ S' = SP S lo p (acc ++ [s])
          | false => e = .panicked (refusedV 22) ∧ S' = { h := S.h.set (S.nx + 2) (.deferred (some [])), nx := S.nx + 40 } := by
        intro acc s may hacc
        refine RoundT.within (R := fun e S' => match may && Nat.blt acc.length 8 with
          | true => e = .returned (.bool true) ∧ Within (SP S lo p (acc ++ [s])) S'
          | false => e = .panicked (refusedV 22) ∧ Within { h := S.h.set (S.nx + 2) (.deferred (some [])), nx := S.nx + 40 } S') ?_ ?_
        · refine RoundT.of (lo := lo) (by simp only [loopAt, SP_loop]) (by rw [l6]; rfl) (by rw [l5, l6]; rfl) (by rw [l3]; exact ⟨_, Tryd.func24⟩) ?_
          simp only [l3, l4, l5, l6, l7, setParams]
          refine wp_sound baseU _ ?_
          simp only [wp]
          refine walk (fun Q => by simp [go_sem]; rfl) (seqK_normal ?_)
          refine walk (fun Q => by simp [go_sem]; rfl) ?_
          refine ⟨rfl, lo, by simp only [loopAt, SP_loop], l1, ?_⟩
          obtain ⟨T, hT⟩ : ∃ T, T = putLoop { h := (SP S lo p acc).h, nx := (SP S lo p acc).nx + 1 } (S.nx + 3) { lo with state := .busy } := ⟨_, rfl⟩
          rw [← hT, l8]
          refine CodeT.forget (fr' := ⟨((Tr.nil.set 3 (.ptr (some (S.nx, 0)))).set 4 (.str s)).set 5 (.bool may), 37, [], none⟩)
            (frIn_set (frIn_set (frIn_set frIn_nil (by simp [go_sem])) (by simp [go_sem])) (by simp [go_sem])) (Within.refl _) ?_
          have hTn : T.nx = S.nx + 5 + 3 * acc.length := by rw [hT]; simp only [putLoop, SP_nx]; omega
          have hTg : ∀ id, T.h.get id = if id = S.nx + 3 then some (.loop { lo with state := .busy }) else (SP S lo p acc).h.get id := fun id => by rw [hT]; simp only [putLoop, tr_get_set]
          have hTl : T.h.get S.nx = some (.cells (Tr.nil.set 0 (listV S.nx acc)) 1 48 false false) := by rw [hTg, if_neg (by omega)]; exact SP_list
          have hloop : loopAt T (S.nx + 3) = some { lo with state := .busy } := by simp only [loopAt, hTg]; rfl
          have hfail : Within { h := S.h.set (S.nx + 2) (.deferred (some [])), nx := S.nx + 40 } T := by
            refine within_of (fun id o q => ?_) (by show T.nx ≤ S.nx + 40; omega)
            simp only [tr_get_set] at q
            rw [hTg]
            split at q
            · rename_i e; rw [e, if_neg (by omega), SP_def]; exact q
            · have := hfr id o q
              rw [if_neg (by omega), SP_old this]; exact q
          have hback : ({ lo with state := .ready, pending := none } : VLoop) = lo := by cases lo; cases l1; cases l2; rfl
          refine wp_sound baseU _ ?_
          simp only [wp]
          cases may with
          | false =>
            refine walk_out (x := .panic (refusedV 22)) (fun Q => by simp [go_sem, gNo]; rfl) ?_
            exact seqK_panic ⟨rfl, _, hloop, rfl, hfail⟩
          | true =>
            cases acc with
            | nil =>
              refine walk (fun Q => by simp [go_sem, gNo, hTl, listV]; rfl) (seqK_normal ?_)
              have hap := ap_first (S := { h := T.h.set T.nx (.cells (Tr.nil.set 0 (.str s)) 1 9 false false), nx := T.nx + 1 }) (r := T.nx) (s := s) (by simp [tr_get_set])
              refine walk (fun Q => by simp [go_sem, hTl, listV, hap, show (S.nx = T.nx) = False from by simp; omega, show (S.nx = T.nx + 1) = False from by simp; omega]; rfl) ?_
              simp only [List.length_nil] at hTn hacc
              refine blockK_normal ⟨rfl, { lo with state := .busy }, ?_, trivial, ?_⟩
              · simp only [loopAt, tr_get_set]
                rw [if_neg (by omega), if_neg (by omega), if_neg (by omega)]
                exact hloop
              · rw [hback]
                refine SP_within hfr (by simp only [putLoop, List.length_append, List.length_cons, List.length_nil]; omega) (fun id hid => ?_) ?_ ?_ ?_ ?_ ?_
                · simp only [putLoop, tr_get_set]
                  rw [if_neg (by omega), if_neg (by omega), if_neg (by omega), if_neg (by omega), hTg, if_neg (by omega), SP_old hid]
                · simp only [putLoop, tr_get_set]
                  rw [if_neg (by omega), if_pos trivial]
                  simp only [listV, List.nil_append, hTn]
                  rfl
                · simp only [putLoop, tr_get_set]
                  rw [if_neg (by omega), if_neg (by omega), if_neg (by omega), if_neg (by omega), hTg, if_neg (by omega), SP_path]
                · simp only [putLoop, tr_get_set]
                  rw [if_neg (by omega), if_neg (by omega), if_neg (by omega), if_neg (by omega), hTg, if_neg (by omega), SP_def]
                · simp only [putLoop, tr_get_set]
                  rw [if_pos trivial]
                · intro s' acc' he
                  cases he
                  simp only [putLoop, tr_get_set, List.length_nil]
                  rw [if_neg (by omega), if_neg (by omega), if_pos (by omega)]
                  rfl
            | cons s0 acc =>
              have hap := ap_next (S := { h := T.h.set T.nx (.cells (Tr.nil.set 0 (.str s)) 1 9 false false), nx := T.nx + 1 }) (q := S.nx + 3 + 3 * (acc.length + 1)) (r := T.nx) (l := (s0 :: acc).map .str) (s := s)
                (by simp only [List.length_cons] at hTn; simp only [tr_get_set]; rw [if_neg (by omega), hTg, if_neg (by omega), SP_row]; simp) (by simp [tr_get_set]) (by simpa using hacc) (by have := allOne_strs ((s0 :: acc) ++ [s]); rwa [List.map_append] at this)
              simp only [List.length_map, List.length_cons] at hap hTn hacc
              cases hb : Nat.blt (acc.length + 1) 8 with
              | false =>
                have i8 : (8 : Int) ≤ (acc.length : Int) + 1 := by rw [Bool.eq_false_iff, ne_eq, Nat.blt_eq] at hb; omega
                refine walk_out (x := .panic (refusedV 22)) (fun Q => by simp [go_sem, gNo, hTl, listV, i8]; rfl) ?_
                refine seqK_panic (show _ ∧ _ from ⟨rfl, _, hloop, ?_⟩)
                simp only [List.length_cons, hb]
                exact ⟨trivial, hfail⟩
              | true =>
                have i8 : ¬ (8 : Int) ≤ (acc.length : Int) + 1 := by rw [Nat.blt_eq] at hb; omega
                refine walk (fun Q => by simp [go_sem, gNo, hTl, listV, i8]; rfl) (seqK_normal ?_)
                refine walk (fun Q => by simp [go_sem, hTl, listV, hap, Tr.get_del, show (S.nx = T.nx) = False from by simp; omega, show (S.nx = T.nx + 1) = False from by simp; omega, show (S.nx = S.nx + 3 + 3 * (acc.length + 1)) = False from by simp; omega]; rfl) ?_
                refine blockK_normal ⟨rfl, { lo with state := .busy }, ?_, ?_⟩
                · simp only [loopAt, tr_get_set, Tr.get_del]
                  rw [if_neg (by omega), if_neg (by omega), if_neg (by omega), if_neg (by omega)]
                  exact hloop
                · simp only [List.length_cons, hb]
                  refine ⟨trivial, ?_⟩
                  rw [hback]
                  refine SP_within hfr (by simp only [putLoop, List.length_append, List.length_cons, List.length_nil]; omega) (fun id hid => ?_) ?_ ?_ ?_ ?_ ?_
                  · simp only [putLoop, tr_get_set, Tr.get_del]
                    rw [if_neg (by omega), if_neg (by omega), if_neg (by omega), if_neg (by omega), if_neg (by omega), hTg, if_neg (by omega), SP_old hid]
                  · simp only [putLoop, tr_get_set]
                    rw [if_neg (by omega), if_pos trivial]
                    simp only [listV, List.cons_append, hTn, List.length_append, List.length_cons, List.length_nil]
                    rw [show S.nx + 5 + 3 * (acc.length + 1) + 1 = S.nx + 3 + 3 * (acc.length + (0 + 1) + 1) by omega]
                    rfl
                  · simp only [putLoop, tr_get_set, Tr.get_del]
                    rw [if_neg (by omega), if_neg (by omega), if_neg (by omega), if_neg (by omega), if_neg (by omega), hTg, if_neg (by omega), SP_path]
                  · simp only [putLoop, tr_get_set, Tr.get_del]
                    rw [if_neg (by omega), if_neg (by omega), if_neg (by omega), if_neg (by omega), if_neg (by omega), hTg, if_neg (by omega), SP_def]
                  · simp only [putLoop, tr_get_set]
                    rw [if_pos trivial]
                  · intro s' acc' he
                    rw [List.cons_append, List.cons.injEq] at he
                    obtain ⟨rfl, rfl⟩ := he
                    simp only [putLoop, tr_get_set, List.length_append, List.length_cons, List.length_nil]
                    rw [if_neg (by omega), if_neg (by omega), if_pos (by omega), List.map_cons, List.map_append]
                    simp only [Tr.ofList, tr_setAll_cons]
                    rfl
        · intro e S1 h
          cases hb : may && Nat.blt acc.length 8 with
          | true => rw [hb] at h; exact ⟨_, h.2, h.1, rfl⟩
          | false => rw [hb] at h; exact ⟨_, h.2, h.1, rfl⟩
      have hst := steps_T (lp := S.nx + 3) (B := S.nx + 1) h1 (by rwa [Nat.ble_eq] at h2) (SP S lo p) { h := S.h.set (S.nx + 2) (.deferred (some [])), nx := S.nx + 40 } (fun acc => by simp [cellAt, SP_path, tr_get_set]) hround
      refine FunT.of_call noCount Tryd.func61 rfl (hst.mono fun e1 rc S1 q => ?_)
      rw [← hsp] at q
      cases hs : splitG p with
      | none =>
        rw [hs] at q
        obtain ⟨rfl, hw⟩ := q
        rw [hs] at h
        simp only [Option.some.injEq, Prod.mk.injEq] at h
        obtain ⟨rfl, rfl⟩ := h
        have hd : S1.h.get (S.nx + 2) = some (.deferred (some [])) := hw.1 _ _ (by simp [tr_get_set])
        refine UnwT.collected (id := S.nx + 2) (calls := []) rfl (by simp only [takeV, hd, Tr.with_eq]; rfl) (UnwT.panics rfl ⟨rfl, ?_⟩)
        refine within_of (fun id o q => ?_) hw.2
        simp only [tr_get_set]
        have hid := hfr id o q
        rw [if_neg (by omega)]
        exact hw.1 _ _ (by simp only [tr_get_set]; rw [if_neg (by omega)]; exact q)
      | some names =>
        rw [hs] at q
        obtain ⟨rfl, hw⟩ := q
        rw [hs] at h
        simp only [Option.some.injEq, Prod.mk.injEq] at h
        obtain ⟨rfl, rfl⟩ := h
        have hle : names.length ≤ 8 := splitGo_le (hsp ▸ hs) (by simp)
        have hlo : S1.h.get (S.nx + 3) = some (.loop lo) := hw.1 _ _ SP_loop
        have hls : S1.h.get S.nx = _ := hw.1 _ _ SP_list
        have hd : S1.h.get (S.nx + 2) = some (.deferred (some [])) := hw.1 _ _ SP_def
        have hnx : S1.nx ≤ S.nx + 4 + 3 * names.length := hw.2
        refine ⟨lo, by simp only [loopAt]; exact (show (match S1.h.get (S.nx + 3) with | some (.loop lo) => some lo | _ => none) = some lo from by rw [hlo]), by rw [l1]; simp, l2, ?_⟩
        show CodeT _ _ _ _ _ _
        obtain ⟨T, hT⟩ : ∃ T, T = putLoop S1 (S.nx + 3) { lo with state := .exhausted } := ⟨_, rfl⟩
        have hTg : ∀ id, id ≠ S.nx + 3 → T.h.get id = S1.h.get id := fun id hi => by rw [hT]; simp only [putLoop, tr_get_set]; rw [if_neg hi]
        have hTl : T.h.get S.nx = some (.cells (Tr.nil.set 0 (listV S.nx names)) 1 48 false false) := by rw [hTg _ (by omega)]; exact hls
        have hTd : T.h.get (S.nx + 2) = some (.deferred (some [])) := by rw [hTg _ (by omega)]; exact hd
        have hTn : T.nx = S1.nx := by rw [hT]; rfl
        refine CodeT.forget (S' := T) (fr' := ⟨Tr.nil.set 3 (.ptr (some (S.nx, 0))), 37, [.collected (S.nx + 2)], none⟩) ⟨?_, rfl, rfl, rfl⟩ (by rw [hT]; exact .refl _) ?_
        · intro i v q
          simp only [tr_get_set, Tr.get_nil] at q ⊢
          split at q
          · rename_i e; subst e; simpa using q
          · cases q
        refine wp_sound baseU _ ?_
        simp only [wp]
        refine walk (fun Q => by simp [go_sem, hTl]; rfl) (seqK_normal ?_)
        refine UnwT.collected (id := S.nx + 2) (calls := []) rfl (by simp only [takeV, hTd, Tr.with_eq]; rfl) (UnwT.done (vs := [listV S.nx names]) Tryd.func24 rfl (by rw [show Tryd.f24.results.toList = [.tmp 2] from rfl]; simp [resultsV, tr_get_set]) ⟨rfl, ?_⟩)
        refine within_of (fun id o q => ?_) (by show T.nx ≤ S.nx + 40; omega)
        simp only [tr_get_set]
        have old : S.h.get id = some o → (if id = S.nx + 2 then some (.deferred none) else T.h.get id) = some o := by
          intro q
          have hid := hfr id o q
          rw [if_neg (by omega), hTg _ (by omega)]
          exact hw.1 _ _ (by rw [SP_old hid]; exact q)
        cases names with
        | nil => exact old q
        | cons s0 acc =>
          simp only [rowS] at q
          rw [tr_get_set] at q
          split at q
          · rename_i e
            rw [e, if_neg (by omega), hTg _ (by omega)]
            exact hw.1 _ _ (by rw [SP_row]; exact q)
          · exact old q
    · cases h
  · cases h

end Go.Proofs.YtgdpedfahfmjeaaDoor
