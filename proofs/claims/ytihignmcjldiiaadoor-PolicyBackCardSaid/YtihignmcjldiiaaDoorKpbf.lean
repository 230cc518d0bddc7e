/- The statement PolicyBack of the given program: for every input the law answers true, and its arguments read as before. Its one listed variable (errors.errorType) is tied to the program's text by the given tie. -/
import Derived.Test.YtihignmcjldiiaaDoorKpbe
import Derived.Test.YtihignmcjldiiaaDoorKxfe3af9
import Derived.Test.YtihignmcjldiiaaDoorKxf80a45
import Derived.Test.YtihignmcjldiiaaDoorTie
import Derived.Test.YtihignmcjldiiaaDoorCards
import Derived.SevenTiedAt
namespace Go.Proofs.YtihignmcjldiiaaDoor.Mir
open Go Go.RowKit
set_option maxRecDepth 100000
theorem psureB_at (n : Nat) : f_7 (n + 3000) = some true := by kernel_rfl
theorem pgiveB_at {N : Nat} (k b a q w c : Int) (j : Bool) (n : ByteArray) (f : Int) {L : List Rul} (hL : L.length ≤ 4398046511104) (hN : L.length < N) : f_4 N k b a q w c j n f L = some (k, b, a, q, w, c, j, n, f, L) := by
  unfold f_4
  rw [give_at28 n f hL hN]; rfl
theorem pdec_err {xs : List Int} (h : (openD 3 xs).2 ≠ none) : Option.isNone (pdecD xs).2 = false := by
  unfold pdecD
  split
  · rfl
  · rename_i e; exact absurd e h
theorem pback_holds (F : Nat) (k b a q w c : Int) (j : Bool) (n : ByteArray) (f : Int) (L : List Rul) (at_ : Int) (hL : L.length ≤ 4398046511104) (hF : L.length < F) (h3 : 3000 ≤ F) (hs : f_7 F = some true) :
    f_3 F k b a q w c j n f L at_ = some true := by
  unfold f_3
  rw [pgiveB_at k b a q w c j n f hL hF]
  simp only [Option.bind_some]
  obtain ⟨g1, e1, i1⟩ := big_at28 (N := F) n f L (by omega)
  rw [e1]
  simp only [Option.bind_some]
  cases g1 with
  | true => rw [hs]; rfl
  | false =>
    obtain ⟨h60, hn, hr⟩ := i1 rfl
    simp only [cond_false]
    rw [pchk_at h3 k b a q w c j (by omega)]
    simp only [Option.bind_some]
    cases hm : mayP k b a q w c n f L with
    | false => rw [hs]; rfl
    | true =>
      simp only [cond_true, Option.isNone_none, Bool.not_true, cond_false]
      rw [penc_at h3 k b a q w c j h60]
      simp only [Option.bind_some]
      have hz := (mayP_ok hm).hz
      have hzl := zenc_len 32 hz (mayZ_ok hz).len
      have hby : By (polB k b a q w c j (zencD n f L).1) := polB_by (zencD_ok hz).2.2
      have hbl : (polB k b a q w c j (zencD n f L).1).length ≤ 1024 := by rw [polB_len]; omega
      have hmb : By (headL 3 (polB k b a q w c j (zencD n f L).1) ++ polB k b a q w c j (zencD n f L).1) := (headL_by (by decide) (by decide) _).append hby
      have hlen : (sealedL (headL 3 (polB k b a q w c j (zencD n f L).1) ++ polB k b a q w c j (zencD n f L).1)).length = 53 + (zencD n f L).1.length := by rw [sealedL_len, List.length_append, polB_len]; simp [headL, le_len]; omega
      have hd := pdec_enc (j := j) hm
      have he := penc_eq (j := j) hm
      rw [he] at hd ⊢
      have hcut := fun (x : Nat) (hx : x < _) => pdec_err (open_take (k := 3) (b := polB k b a q w c j (zencD n f L).1) (n := x) (by decide) hbl hx)
      have hset := fun (i : Nat) (y : Int) hi h0 h1 hne => pdec_err (open_set (k := 3) (i := i) (y := y) hmb hi h0 h1 hne)
      have hBy := sealedL_by hmb
      generalize sealedL (headL 3 (polB k b a q w c j (zencD n f L).1) ++ polB k b a q w c j (zencD n f L).1) = B at hlen hd hcut hset hBy ⊢
      simp only [Option.isNone_none, Bool.not_true, cond_false]
      rw [pdec_at hBy (by omega) h3]
      simp only [Option.bind_some]
      rw [hd]
      simp only [Option.isNone_none, Bool.not_true, cond_false]
      rw [show f_10 F k b a q w c j n f L k b a q w c j n f L = _ from psame_at (k, b, a, q, w, c, j, n, f, L) (k, b, a, q, w, c, j, n, f, L) (by simp only; omega) (by simp only; omega), eqP_self]
      simp only [Option.bind_some, Bool.not_true, cond_false]
      obtain ⟨k', hk', hk2⟩ := cut_at (at_ := at_) (n := B.length) (by omega) (by omega)
      obtain ⟨i, jj, hi, hj, ei, ej, en⟩ := bit_at (at_ := at_) (n := B.length) (by omega) (by omega)
      rw [decide_eq_false (show ¬ (B.length : Int) < 53 by omega), decide_eq_false (show ¬ IntKind.u64.wrap (B.length : Int) = 0 by rw [wu64 (by omega) (by omega)]; omega), hk', decide_eq_true (show 0 ≤ (k' : Int) ∧ (k' : Int) ≤ (B.length : Int) by omega), decide_eq_false en, ei, ej, decide_eq_true (show 0 ≤ (i : Int) ∧ (i : Int) < (B.length : Int) by omega), decide_eq_false (show ¬ (jj : Int) < 0 by omega)]
      simp only [cond_false, cond_true, Int.toNat_natCast]
      rw [show min jj IntKind.u8.bits = jj from Nat.min_eq_left (show jj ≤ 8 by omega)]
      rw [pdec_at (hBy.take _) (by rw [List.length_take]; omega) h3]
      simp only [Option.bind_some]
      obtain ⟨y, ey, y0, y1, yne⟩ := turned (x := B.getD i 0) (by_getD hBy i) hj
      rw [ey, pdec_at (hBy.set i y0 y1) (by rw [List.length_set]; omega) h3]
      simp only [Option.bind_some]
      rw [hcut k' hk2, hset i y hi y0 y1 (fun e => yne (by rw [e, List.getD_eq_getElem?_getD, List.getElem?_eq_getElem hi]; rfl)), hs]
      rfl
end Go.Proofs.YtihignmcjldiiaaDoor.Mir
namespace Go.Proofs.YtihignmcjldiiaaDoor
open Go Go.RowKit Mir
theorem laid_Q {w : World} (hL : LaidW w) : ∀ q ∈ Mir.laidL, w.cell? ⟨q.1, q.2.1, none⟩ = some q.2.2 := fun q hq => by
  obtain rfl := List.mem_singleton.1 hq
  exact hL
abbrev bytesSh : Sh := .sl [.int .u8]
theorem by_int {n : Int} (hw : (Lit.int .u8 n).wf = true) : 0 ≤ n ∧ n < 256 := by
  have := wf_range hw
  have c0 : IntKind.u8.min = 0 := by decide
  have c1 : IntKind.u8.max = 255 := by decide
  omega
theorem by_ok {xs : bytesSh.T} (h : OkS bytesSh xs) : By xs := fun x hx => by
  simp only [OkS] at h
  have hw := h.2.2 x hx
  simp only [OkL, OkS] at hw
  exact by_int hw
theorem len_ok {L : (Sh.sl [.int .i64, .int .i64, .str]).T} (h : OkS (.sl [.int .i64, .int .i64, .str]) L) : List.length (α := Rul) L ≤ 4398046511104 := by
  have hlen : List.length (α := Rul) L * 32 ≤ reachBytes := (show List.length (α := Rul) L ≤ maxLen ∧ List.length (α := Rul) L * bySL [.int .i64, .int .i64, .str] ≤ reachBytes ∧ _ by simpa only [OkS] using h).2.1
  have : reachBytes = 140737488351232 := by decide
  omega
theorem len_ok' {n : Nat} (h : n * bySL [.int .i64, .int .i64, .str] ≤ reachBytes) : n ≤ 4398046511104 := by
  have h : n * 32 ≤ reachBytes := h
  have : reachBytes = 140737488351232 := by decide
  omega
theorem i64_ok {n : Int} (hw : (Lit.int .i64 n).wf = true) : -9223372036854775808 ≤ n ∧ n < 9223372036854775808 := by
  have := wf_range hw
  have c0 : IntKind.i64.min = -9223372036854775808 := by decide
  have c1 : IntKind.i64.max = 9223372036854775807 := by decide
  omega
theorem repL_arr {g : Gh} : ∀ {cs : List C} {vs : List Value}, RepL g cs vs → ∀ k n xs, C.arr k n xs ∈ cs → xs.length = n
  | [], _, _, _, _, _, h => by cases h
  | c :: cs, vs, hr, k, n, xs, h => by
    rcases List.mem_cons.1 h with rfl | hm
    · simp only [RepL] at hr
      obtain ⟨r, h1, _⟩ := hr
      exact h1
    · clear h
      cases c <;> (simp only [RepL] at hr; first | (obtain ⟨_, r, _, _, h3⟩ := hr; exact repL_arr h3 k n xs hm) | (obtain ⟨r, _, _, h3⟩ := hr; exact repL_arr h3 k n xs hm))
theorem repA_arr {g : Gh} {cs : List C} {v : Value} (h : RepA g (.agg cs) v) {k : IntKind} {n : Nat} {xs : List Int} (hm : C.arr k n xs ∈ cs) : xs.length = n := by
  simp only [RepA] at h
  obtain ⟨vs, _, h⟩ := h
  exact repL_arr h k n xs hm
end Go.Proofs.YtihignmcjldiiaaDoor
namespace Go.Proofs.YtihignmcjldiiaaDoor
open Go Go.RowKit Mir
abbrev polSh : List Sh := [.int .i64, .int .i64, .int .i64, .int .i64, .int .i64, .int .i64, .bool, .str, .int .i64, .sl [.int .i64, .int .i64, .str]]
set_option maxRecDepth 100000 in
theorem law_PolicyBack_row (w : World) (hL : LaidW w) {v0 v1 : Value} {y0 : TL polSh} (k0 : OkL _ y0) (e0 : RepA (gW w) (.agg (encL _ y0)) v0) {y1 : (Sh.int .i64).T} (_ : OkS (.int .i64) y1) (e1 : RepA (gW w) (.one (encS (.int .i64) y1)) v1) :
    Calls Tryd.prog 3 #[v0, v1] w fun e w' => e = .returned (.bool true) ∧ Below w.heap.size w w' := by
  obtain ⟨k, b, a, q, u, c, j, n, f, L⟩ := y0
  simp only [OkL] at k0
  have hLl := len_ok k0.2.2.2.2.2.2.2.2.2
  have hh := pback_holds (List.length (α := Rul) L + 3000) k b a q u c j n f L y1 hLl (by omega) (by omega) (psureB_at _)
  generalize List.length (α := Rul) L = m at hh
  have hr : (S_3 (m + 3000)).run [.agg (encL polSh (k, b, a, q, u, c, j, n, f, L)), .one (encS (.int .i64) y1)] [] = f_3 (m + 3000) k b a q u c j n f L y1 := by kernel_rfl
  have ho : ((S_3 (m + 3000)).out [.agg (encL polSh (k, b, a, q, u, c, j, n, f, L)), .one (encS (.int .i64) y1)] [] true).1 = .a (.one (Mir.boolC true)) := by kernel_rfl
  exact calls_open (vs := [v0, v1]) (s_3 (m + 3000)) (by kernel_rfl) Tryd.func3 (by kernel_rfl) (by kernel_rfl) (hr.trans hh)
    ⟨v0, _, rfl, e0, v1, _, rfl, e1, rfl⟩ (laid_Q hL) (fun g x h => by rw [ho] at h; exact h)
end Go.Proofs.YtihignmcjldiiaaDoor
namespace Go.Proofs.YtihignmcjldiiaaDoor
open Go.ChangeShapes Go.WideShapes Go.ChangeAt Go.RowKit
open Go.ChangeMaps (open_string shut_string)
set_option maxRecDepth 100000 in
theorem policyBack_lifted (os : Os) (started : os.Started) (H : Type) (enc : TypeId × Value → H) :
    ReturnsInHanded {} Tryd.checked os 3 .any (fun w args => (Rows.policyBackSpec.pre enc Tryd.prog Tryd.f3 [] false w args ∧ laidMetH Tryd.prog laidU w) ∧ sizedMet enc Tryd.prog Tryd.f3 (OpenSpec.ofChange Rows.policyBackSpec) false w args)
      (Rows.policyBackSpec.post enc Tryd.prog Tryd.f3 false true false false) := by
  refine returnsInHanded_of_change_and (C := Tryd.checked) (X := fun w _ => laidMetH Tryd.prog laidU w) (fun _ _ _ hh h => h.of_heap hh) Tryd.own started (by kernel_rfl) Tryd.func3
    (ChangeSpec.witness_at (enc := enc) (C := Tryd.checked) (os := os) (X := fun w _ => laidMetH Tryd.prog laidU w) false (laidWorldU os) #[.agg #[.int .i64 0, .int .i64 0, .int .i64 0, .int .i64 0, .int .i64 0, .int .i64 0, .bool false, .string ByteArray.empty, .int .i64 0, .slice none 0 0], .int .i64 0] 8 rfl (by kernel_rfl) (by kernel_rfl) (by kernel_rfl) (by kernel_rfl) (by kernel_rfl) (laidWorldU_met os _)) ?_
  intro W base args ds gs before hval0 hW _ hsz0 hL _
  have hval : ∀ (j : Nat) t v, Tryd.f3.params[j]? = some t → args[j]? = some v → Value.okWide Tryd.prog W .any base t v := hval0
  have hW' := hW
  have hsz : (DataW.weightsEach Tryd.prog (Tryd.f3.params.toList ++ (Rows.policyBackSpec).plain.varTypes Tryd.prog) (ds ++ gs)).all (· ≤ reachBytes) = true := hsz0
  obtain ⟨p, q, hA0, hV, rfl, hfz, hnd⟩ := hW
  have hA : DataW.TrodAll enc Tryd.prog W 0 (fun _ => true) true Tryd.f3.params.toList args.toList ds p := hA0
  have hA1 := hA
  rw [Tryd.params3] at hA hval hsz
  obtain ⟨v0, vs0, d0, ds0, p0, q0, hargs, rfl, rfl, h0, r0⟩ := trodAll_cons hA
  obtain ⟨v1, vs1, d1, ds1, p1, q1, rfl, rfl, rfl, h1, r1⟩ := trodAll_cons r0
  obtain ⟨rfl, rfl, rfl⟩ := trodAll_nil r1
  obtain rfl : args = #[v0, v1] := by cases args; simp_all
  obtain ⟨rfl, rfl⟩ := trodVars_none hV
  have hstay := fun (W' : World) (bel : Below W.heap.size W W') => trodAll_stays Tryd.laidOut bel (by rw [Tryd.params3]; simp only [List.mem_cons, List.not_mem_nil, or_false]; rintro t (rfl | rfl) <;> exact ⟨by kernel_rfl, of_decide_eq_true (by kernel_rfl)⟩) hA1
  obtain ⟨y0, k0, e0⟩ := Mir.open_agg (l := [.int .i64, .int .i64, .int .i64, .int .i64, .int .i64, .int .i64, .bool, .str, .int .i64, .sl [.int .i64, .int .i64, .str]]) (by kernel_rfl) (by kernel_rfl) (hval 0 30 v0 rfl rfl) h0 (Mir.wok_each hsz 0 _ _ rfl rfl)
  obtain ⟨y1, k1, e1⟩ := Mir.open_cell (s := .int .i64) (by kernel_rfl) (by kernel_rfl) (fun _ _ h => by cases h) (hval 1 3 v1 rfl rfl) h1 (Mir.wok_each hsz 1 _ _ rfl rfl)
  refine (law_PolicyBack_row W (laid_of (laidU_of hL)) k0 e0 k1 e1).mono fun e W' ⟨he, bel⟩ => ?_
  subst he
  exact ⟨_, rfl, _, _, _, [], _, [], hW', trodAll_mk1 (shut_bool Tryd.underlying4 _), hstay W' bel, rfl, bel.frame _, fun h => by cases h⟩
theorem policyBack_over : Rows.PolicyBackSaid :=
  OpenClaim.holds_of_wide 3 Tryd.f3 rfl rfl rfl rfl rfl rfl rfl ⟨rfl, rfl, rfl, rfl, rfl⟩ rfl rfl rfl rfl rfl (by kernel_rfl) Tryd.func3 (by kernel_rfl)
    (of_decide_eq_true (by kernel_rfl)) (by unfold Func.isWrapper; first | (rw [if_pos (by decide +kernel)]; kernel_rfl) | (rw [if_neg (by decide +kernel)]; exact ⟨rfl, rfl⟩))
    (fun os started H enc _ => policyBack_lifted os started H enc)
theorem policyBack_holds : Rows.PolicyBackCardSaid :=
  Claim7.holds_tied_plain_at .later [] [.data, .handle, .pinned] true Rows.policyBackCard.stood.harness true
    policyBack_over (fun _ h => by cases h) (by kernel_rfl) (fun _ h => by cases h) policyBack_row_tie rfl ⟨rfl, rfl⟩ (by kernel_rfl) rfl
    (fun f fn hf hfn => by
      obtain rfl : f = 3 := Option.some.inj ((show Tryd.prog.funcNamed Rows.policyBackRow.func = some 3 by kernel_rfl).symm.trans hf) |>.symm
      obtain rfl : fn = Tryd.f3 := (Option.some.inj (Tryd.func3.symm.trans hfn)).symm
      exact ⟨by kernel_rfl, fun j t ht => by
        rw [Tryd.params3] at ht
        rcases j with _ | j
        · obtain rfl := Option.some.inj ht; kernel_rfl
        rcases j with _ | j
        · obtain rfl := Option.some.inj ht; kernel_rfl
        · simp at ht⟩)
    (by kernel_rfl)
#print axioms policyBack_holds
end Go.Proofs.YtihignmcjldiiaaDoor
