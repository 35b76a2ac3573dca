/- Walk: the cells with given runs, by the program. Condition: the text is shorter than 2^63. -/
import Derived.Test.YtbkacmklgkgamaaUn
namespace Go.Proofs.Ytbkacmklgkgamaa
open Go.RowKit
theorem own_cap' {w : World} {base g n c : Nat} {e : TypeId} {xs : List Value} (h : w.ownsRow base e 1 (.slice (some ⟨g, 0, none⟩) n c) n xs) : n ≤ c := by
  rcases h.2 with ⟨h', _⟩ | ⟨g', cap, cur, hv, hb, hh, hn, hx, hs, ht⟩
  · simp at h'
  · injection hv with _ _ h3
    omega

section
variable {P : Program}
/-- 'append(s, x...)' of a row of the call's own onto another one. -/
theorem wpList_append_row {W : World} {ops : Array Oper} {rest : List Oper} {o : Oper} {a : Act} {Q : Exit → Act → World → Prop} (hgd : o.guard = none) (s x : Operand) (t : TypeId)
    (ho : o.op = .call { callee := .builtin .append, args := #[s, x], argTypes := #[t, t] })
    (base : Nat) (e : TypeId) (z : Value) (bytes : Nat) (ht : P.underlying t = some (.slice e)) (hinfo : (P.info? e).map (fun i => (i.zero, i.size, i.bytes)) = some (some z, 1, bytes)) (hzs : z.cells.size = 1)
    (g n c : Nat) (xs : List Value) (hs : a.eval s = .slice (some ⟨g, 0, none⟩) n c) (hown : W.ownsRow base e 1 (.slice (some ⟨g, 0, none⟩) n c) n xs)
    (base' : Nat) (A' : Option Addr) (m c' : Nat) (news : List Value) (hx : a.eval x = .slice A' m c') (hown' : W.ownsRow base' e 1 (.slice A' m c') m news) (h1 : ∀ u ∈ news, u.oneCell' = true)
    (h63 : n + m ≤ maxLen) (hbytes : (n + m) * bytes ≤ 140737488355328) (hbase : base ≤ W.heap.size)
    (h : ∀ g' c' w', w'.ownsRow base e 1 (.slice (some ⟨g', 0, none⟩) (n + m) c') (n + m) (xs ++ news) → W.grownBy w' (some g) → wpList P ops Q rest (a.put o.dst (.slice (some ⟨g', 0, none⟩) (n + m) c')) w') :
    wpList P ops Q (o :: rest) a W := by
  obtain ⟨i, hi, hz, hsize, hby⟩ := info_parts hinfo
  refine wpList_plain hgd fun K hK => ?_
  have key : ∃ g' c'' w', (Builtin.append_ #[t, t] o.type #[.slice (some ⟨g, 0, none⟩) n c, .slice A' m c']).run P W = .ok (.slice (some ⟨g', 0, none⟩) (n + m) c'') w' ∧ w'.ownsRow base e 1 (.slice (some ⟨g', 0, none⟩) (n + m) c'') (n + m) (xs ++ news) ∧ W.grownBy w' (some g) := by
    rcases hown'.2 with ⟨hv, hm0⟩ | ⟨g2, cap2, cur2, hv, _, _, _, _, _, _⟩
    · injection hv with a1 a2 a3
      subst a1 a2 a3
      have hn0 : news = [] := List.eq_nil_of_length_eq_zero (by have := hown'.1; simpa using this)
      subst hn0
      have hcap := own_cap' hown
      have hr := run_append_room_src (P := P) W t t o.type e i ht hi g 0 n c (.slice none 0 0) 0 [] (Src.ofNil W ht 0) (by omega) (fun j hj => absurd hj (by simp)) (fun j hj => absurd hj (by simp))
      exact ⟨g, c, W, hr, by rw [List.append_nil]; exact hown, World.grownBy.refl W _⟩
    · injection hv with a1 a2 a3
      subst a1 a3
      obtain ⟨v', w', hr, h2, h3, h4, h5⟩ := run_append_own_at (P := P) W base t o.type e i z 1 bytes ht hi hz hsize hby hzs (by omega) (.slice (some ⟨g, 0, none⟩) n c) n xs hown ⟨g2, 0, none⟩ m c' news (by have := hown'.1; omega) (hown'.cells (g := g2) rfl) h1 h63 hbytes hbase
      rcases h2.2 with ⟨hn, _⟩ | ⟨g3, cap3, cur3, hv3, _⟩
      · have := (h4.1 hn).1
        simp at this
      · subst hv3
        exact ⟨g3, cap3, w', hr, h2, h3⟩
  obtain ⟨g', c'', w', hr, h2, h3⟩ := key
  unfold Oper.wp execOp
  simp only [ho, resolve, invoke, builtin, Sem.run_bind, Sem.run_pure, Result.andThen_ok, List.map_toArray, List.map_cons, List.map_nil, hs, hx, hr]
  exact hK _ _ (h g' c'' w' h2 h3)
end
set_option maxRecDepth 100000 in
set_option maxHeartbeats 4000000 in
theorem UnpackCells_any (s : ByteArray) (w : World) (hs : s.size ≤ maxLen) : Calls Try.prog 11 #[.string s] w (UnpOut s w) := by
  unfold maxLen at hs
  go_enter Try.func11, Try.ntmps11
  go_wp2
  go_loopw [4, 5, 6] (fun so sf sa wr => ∃ (k : Nat) (out : List Bool) (g : Nat) (cl : Nat) (full : Bool), so = .slice (some ⟨g, 0, none⟩) out.length cl ∧ sf = .bool full ∧ sa = .int .i64 k ∧ k ≤ s.size ∧ out.length ≤ 256 ∧
    Hid (Fols s k out full) ∧ wr.ownsRow w.heap.size 4 1 (.slice (some ⟨g, 0, none⟩) out.length cl) out.length (out.map bv) ∧ Below w.heap.size w wr) (fun _ _ sa _ => s.size - (intOf sa).toNat)
  case atStart => exact ⟨0, [], w.heap.size, 0, false, rfl, rfl, rfl, Nat.zero_le _, by simp, fols_zero s, (Blk.new w _ _).own (n := 0) (size := 1) (Nat.le_refl _) rfl (by unfold maxLen; omega), (Below.refl _ _).alloc (Nat.le_refl _) _⟩
  case round =>
    obtain ⟨k, out, g, cl, full, rfl, rfl, rfl, hk, hol, HF, ho, hb⟩ := hrel
    have HO := Lib.hid ho
    have HB := Lib.hid hb
    clear ho hb
    by_cases hlt : k < s.size
    · have hx : s[k].toNat ≤ 255 := by have := s[k].toNat_lt; omega
      obtain ⟨b, eb⟩ : ∃ b : Nat, s[k].toNat = b := ⟨_, rfl⟩
      rw [eb] at hx
      by_cases h255 : b = 255
      · subst h255
        by_cases hk1 : k + 1 < s.size
        · have hx2 : s[k + 1].toNat ≤ 255 := by have := s[k + 1].toNat_lt; omega
          obtain ⟨b2, eb2⟩ : ∃ b : Nat, s[k + 1].toNat = b := ⟨_, rfl⟩
          rw [eb2] at hx2
          have FN : Hid (Fols s (k + 2) (out ++ List.replicate (255 + b2) full) (!full)) := fols_two HF.out hlt eb hk1 eb2
          have hcnt : 255 + b2 ≤ 510 := by omega
          obtain ⟨cnt, ec⟩ : ∃ cnt, 255 + b2 = cnt := ⟨_, rfl⟩
          have EC : Hid ((cnt : Int) = 255 + (b2 : Int)) := by unfold Hid; omega
          rw [ec] at FN hcnt
          have HEC := Lib.hid ec
          clear HF
          by_cases hbig : 256 < out.length + cnt
          · have HN := Lib.hid (fols_big FN.out (by rw [List.length_append, List.length_replicate]; exact hbig))
            have hbg : 256 < (out.length : Int) + (255 + (b2 : Int)) := by omega
            clear ec
            go_wp2
            go_ret2
            exact ⟨none, HN.out, HB.out, .inl ⟨rfl, rfl⟩⟩
          · have hbg : ¬ 256 < (out.length : Int) + (255 + (b2 : Int)) := by omega
            have HBA := Lib.hid (HB.out.alloc HB.out.size (.cells #[.bool full] 4))
            have RC := Lib.hid (repeatBool_one wr.heap.size 0 1 cnt (.bool full) (wr.alloc (.cells #[.bool full] 4)) (by omega) (by rw [World.cell?_alloc_at _ _ _ _ rfl]; rfl) rfl)
            rw [EC.out] at RC
            clear ec
            go_wp2_with fail
            refine RC.out.mono ?_
            rintro e w3 ⟨A3, rfl, ho3, hb3⟩
            have HO3 := Lib.hid ho3
            have HO4 := Lib.hid (own_below (HO.out.alloc (.cells #[.bool full] 4)) hb3)
            have HB4 := Lib.hid (HBA.out.trans (hb3.mono HBA.out.size))
            have h1c : ∀ u ∈ List.replicate cnt (Value.bool full), u.oneCell' = true := one_replicate rfl
            have H1C := Lib.hid h1c
            have hlc : out.length + cnt ≤ 256 := by omega
            have HLC := Lib.hid hlc
            clear ho3 hb3 h1c
            go_wp2_with (at_builtin; refine wpList_append_row (W := w3) rfl _ _ _ rfl w.heap.size 4 (.bool false) 1 Try.underlying29 boolInfo rfl g out.length cl _ rfl HO4.out _ A3 cnt cnt _ rfl HO3.out H1C.out (by unfold maxLen; have := HLC.out; omega) (by have := HLC.out; omega) HB4.out.size ?_; intro g6 c6 w6 ho6 hg6)
            go_roundw
            case rel =>
              refine ⟨k + 2, out ++ List.replicate cnt full, g6, c6, !full, by rw [List.length_append, List.length_replicate], rfl, by go_num, by omega, by rw [List.length_append, List.length_replicate]; omega, FN.out, ?_, HB4.out.grown hg6 HB4.out.size (fun j e => by injection e with e; have := (HO4.out.lt g rfl).1; omega)⟩
              rw [List.length_append, List.length_replicate, List.map_append, List.map_replicate]
              exact ho6
            case measure => simp [intOf]; omega
        · have HNO := Lib.hid (fols_cut HF.out hlt eb (by omega))
          have hks : k + 1 = s.size := by omega
          clear HF
          go_wp2
          go_ret2
          exact ⟨none, HNO.out, HB.out, .inl ⟨rfl, rfl⟩⟩
      · have hlt5 : b < 255 := by omega
        have FN : Hid (Fols s (k + 1) (out ++ List.replicate (b) full) (!full)) := fols_one HF.out hlt eb hlt5
        have hcnt : b ≤ 510 := by omega
        obtain ⟨cnt, ec⟩ : ∃ cnt, b = cnt := ⟨_, rfl⟩
        have EC : Hid ((cnt : Int) = b) := by unfold Hid; omega
        rw [ec] at FN hcnt
        have HEC := Lib.hid ec
        clear HF
        by_cases hbig : 256 < out.length + cnt
        · have HN := Lib.hid (fols_big FN.out (by rw [List.length_append, List.length_replicate]; exact hbig))
          have hbg : 256 < (out.length : Int) + (b) := by omega
          clear ec
          go_wp2
          go_ret2
          exact ⟨none, HN.out, HB.out, .inl ⟨rfl, rfl⟩⟩
        · have hbg : ¬ 256 < (out.length : Int) + (b) := by omega
          have HBA := Lib.hid (HB.out.alloc HB.out.size (.cells #[.bool full] 4))
          have RC := Lib.hid (repeatBool_one wr.heap.size 0 1 cnt (.bool full) (wr.alloc (.cells #[.bool full] 4)) (by omega) (by rw [World.cell?_alloc_at _ _ _ _ rfl]; rfl) rfl)
          rw [EC.out] at RC
          clear ec
          go_wp2_with fail
          refine RC.out.mono ?_
          rintro e w3 ⟨A3, rfl, ho3, hb3⟩
          have HO3 := Lib.hid ho3
          have HO4 := Lib.hid (own_below (HO.out.alloc (.cells #[.bool full] 4)) hb3)
          have HB4 := Lib.hid (HBA.out.trans (hb3.mono HBA.out.size))
          have h1c : ∀ u ∈ List.replicate cnt (Value.bool full), u.oneCell' = true := one_replicate rfl
          have H1C := Lib.hid h1c
          have hlc : out.length + cnt ≤ 256 := by omega
          have HLC := Lib.hid hlc
          clear ho3 hb3 h1c
          go_wp2_with (at_builtin; refine wpList_append_row (W := w3) rfl _ _ _ rfl w.heap.size 4 (.bool false) 1 Try.underlying29 boolInfo rfl g out.length cl _ rfl HO4.out _ A3 cnt cnt _ rfl HO3.out H1C.out (by unfold maxLen; have := HLC.out; omega) (by have := HLC.out; omega) HB4.out.size ?_; intro g6 c6 w6 ho6 hg6)
          go_roundw
          case rel =>
            refine ⟨k + 1, out ++ List.replicate cnt full, g6, c6, !full, by rw [List.length_append, List.length_replicate], rfl, by go_num, by omega, by rw [List.length_append, List.length_replicate]; omega, FN.out, ?_, HB4.out.grown hg6 HB4.out.size (fun j e => by injection e with e; have := (HO4.out.lt g rfl).1; omega)⟩
            rw [List.length_append, List.length_replicate, List.map_append, List.map_replicate]
            exact ho6
          case measure => simp [intOf]; omega
    · obtain rfl : k = s.size := by omega
      have HE := Lib.hid (fols_end HF.out (Nat.le_refl _) hol)
      have PC := Lib.hid (pack_any out.length (some ⟨g, 0, none⟩) cl wr.heap.size out wr hol rfl (Nat.le_refl _) (Rd.own HO.out))
      obtain ⟨pk, epk⟩ : ∃ pk, pack out = pk := ⟨_, rfl⟩
      rw [epk] at PC HE
      obtain ⟨q, eq⟩ : ∃ q, txt pk = q := ⟨_, rfl⟩
      rw [eq] at HE
      have EQ := Lib.hid eq
      clear eq epk HF
      by_cases hq : q = s
      · subst hq
        have hqq := str_eq q
        have HU := Lib.hid (HE.out.1 rfl)
        clear HE
        go_wp2_with fail
        refine PC.out.mono ?_
        rintro e w1 ⟨gp, cp, rfl, hbo, hb1⟩
        have HB1 := Lib.hid (HB.out.trans (hb1.mono HB.out.size))
        have HO1 := Lib.hid (own_below HO.out hb1)
        have CV := conv_string (P := Try.prog) hbo 22 9 5 Try.underlying22 Try.underlying5 Try.underlying9
        rw [EQ.out] at CV
        clear hb1 hbo
        go_wp2
        go_ret2
        exact ⟨some out, HU.out, HB1.out, .inr ⟨out, _, cl, rfl, rfl, HO1.out⟩⟩
      · have hqq := str_ne hq
        have HU := Lib.hid (HE.out.2 hq)
        clear HE hq
        go_wp2_with fail
        refine PC.out.mono ?_
        rintro e w1 ⟨gp, cp, rfl, hbo, hb1⟩
        have HB1 := Lib.hid (HB.out.trans (hb1.mono HB.out.size))
        have CV := conv_string (P := Try.prog) hbo 22 9 5 Try.underlying22 Try.underlying5 Try.underlying9
        rw [EQ.out] at CV
        clear hb1 hbo
        go_wp2
        go_ret2
        exact ⟨none, HU.out, HB1.out, .inl ⟨rfl, rfl⟩⟩
end Go.Proofs.Ytbkacmklgkgamaa
