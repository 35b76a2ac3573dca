/- Walks: a number's two bytes appended; the bytes of a shape, by the program and by the reference. Conditions: the shape is valid. -/
import Derived.Test.YtlklpfjcnbkhlaaPw
import Derived.Test.YtlklpfjcnbkhlaaSh
import Derived.Laws.Shifts
import Derived.StillTailTactics
import Derived.Deep.RegionLaw
import Derived.Deep.RegionHeld3
namespace Go.Proofs.Ytlklpfjcnbkhlaa
open Go.RowKit

theorem wrap_u8 {x : Int} (h : 0 ≤ x) (h' : x < 256) : IntKind.u8.wrap x = x := by simp [IntKind.wrap, IntKind.bits, IntKind.signed]; omega
theorem wrap_i64 {x : Int} (h : 0 ≤ x) (h' : x < 9223372036854775808) : IntKind.i64.wrap x = x := by simp [IntKind.wrap, IntKind.bits, IntKind.signed]; omega
section
variable {P : Program}
/-- '[]byte("..")' of a constant: the conversion of the bytes that were just laid. -/
theorem conv_const (w : World) (t e : TypeId) (he : P.underlying t = some (.slice e)) (hb : P.underlying e = some (.int .u8)) (cs : Array Value) (l : List Nat) (hc : cs.toList = bc l) (n : Nat) (hn : l.length = n) (hm : n ≤ maxLen) :
    ∃ v1 c, (convert t t (.slice (some ⟨w.heap.size, 0, none⟩) n n)).run P (w.alloc (.cells cs e)) = .ok (.slice (some ⟨w.heap.size, 0, none⟩) n c) v1 ∧ Bo v1 w.heap.size w.heap.size n c l ∧ Below w.heap.size w v1 ∧ v1.heap.size = w.heap.size + 1 := by
  have hsz : cs.size = n := by rw [← Array.length_toList, hc, bc_len, hn]
  have hnew : (w.alloc (.cells cs e)).heap[w.heap.size]? = some (.cells cs e) := heap_alloc_new w _
  have hsh : (w.alloc (.cells cs e)).shape? w.heap.size = some (e, cs.size) := by
    unfold World.shape?
    rw [hnew]
  have hfr : ∀ n : Nat, (w.alloc (.cells cs e)).freeze ⟨w.heap.size, n, none⟩ 1 = w.alloc (.cells cs e (n, n + 1)) := fun n => by
    have hm : ∀ (a : Array Obj) (x : Obj) (f : Obj → Obj), (a.push x).modify a.size f = a.push (f x) := by
      intro a x f
      apply Array.ext
      · simp
      · intro i h1 h2
        simp only [Array.getElem_modify, Array.getElem_push]
        by_cases h : a.size = i
        · subst h
          simp
        · have hi : i < a.size := by simp at h1; omega
          simp [h, hi]
    unfold World.freeze
    rw [if_neg (by decide)]
    show ({ w.alloc (.cells cs e) with heap := (w.heap.push (.cells cs e)).modify w.heap.size _ } : World) = _
    rw [hm]
    rfl
  refine ⟨w.alloc (.cells cs e (cs.size, cs.size + 1)), n, ?_, ⟨hn, Nat.le_refl _, by simp, Nat.le_refl _, hm, fun j hj => ⟨?_, ?_⟩, fun j u hu => ?_⟩, (Below.refl _ _).alloc (Nat.le_refl _) _, by simp⟩
  · simp [convert, run_underlying he, run_underlying hb, markStringish, hsh]
    exact hfr _
  · rw [World.cell?_alloc_mark, Array.getElem?_eq_getElem (by rw [hsz]; exact hj)]; rfl
  · rw [World.frozen?_alloc_mark]; simp; omega
  · rw [World.cell?_alloc_mark, ← Array.getElem?_toList, hc]; exact hu
theorem wp_shr8 {o : Oper} {a : Act} {w : World} {K : Act → World → Prop} {Q : Exit → Act → World → Prop} {x y : Operand} {t u : TypeId} (ho : o.op = .binOp .shr t x y u) (n : Nat) (hx : a.eval x = .int .i64 (n : Int)) (hy : a.eval y = .int .u64 8)
    (h : K (a.put o.dst (.int .i64 ((n : Int) / 256))) w) : o.wp P a w K Q := by
  unfold Oper.wp execOp
  simp only [ho, hx, hy, eqGuard_shr, binOp_shr, Sem.run_bind, Sem.run_pure, Result.andThen_ok, shift_shr .i64 .u64 (n : Int) 8 (by decide) (by decide)]
  exact h
end
set_option maxRecDepth 100000 in
set_option maxHeartbeats 1000000 in
theorem twoBytes_any (g n c B x : Nat) (l : List Nat) (w : World) (hx : x < 65536) (hn : n ≤ 1048576) (hB : B ≤ w.heap.size) (hbo : Bo w B g n c l) :
    Calls Try.prog 51 #[.slice (some ⟨g, 0, none⟩) n c, .int .i64 (x : Int)] w fun e w' => ∃ g' c', e = .returned (.slice (some ⟨g', 0, none⟩) (n + 2) c') ∧ Bo w' B g' (n + 2) c' (l ++ [x % 256, x / 256]) ∧ w.grownBy w' (some g) ∧ (g' = g ∨ w.heap.size ≤ g') := by
  have HBO1 := Lib.hid (hbo.alloc (.cells #[.int .u8 ((x : Int) % 256), .int .u8 ((x : Int) / 256)] 5))
  have SR := Lib.hid (Src.fresh (P := Try.prog) (w := w) (tx := 62) Try.underlying62 5 #[.int .u8 ((x : Int) % 256), .int .u8 ((x : Int) / 256)] [x % 256, x / 256] 2 rfl (by simp [bc]) w.heap.size rfl)
  have hszA : B ≤ (w.alloc (.cells #[.int .u8 ((x : Int) % 256), .int .u8 ((x : Int) / 256)] 5)).heap.size := by simp; omega
  have e3 : (x : Int) / 256 % 256 = (x : Int) / 256 := by omega
  clear hbo
  go_enter Try.func51, Try.ntmps51
  go_wp2_with (first | (refine wp_shr8 rfl x rfl rfl ?_) | (at_builtin; refine wpList_append_bytes (W := w.alloc (.cells #[.int .u8 ((x : Int) % 256), .int .u8 ((x : Int) / 256)] 5)) rfl _ _ _ _ rfl 5 (.int .u8 0) Try.underlying62 byteInfo rfl rfl B g n c l rfl HBO1.out 2 [x % 256, x / 256] SR.out (by omega) hszA ?_; intro g6 c6 w6 ho6 hg6 hd6) | fail)
  go_ret
  have hz6 := hg6.size
  refine ⟨g6, c6, rfl, ho6, grown_trans' (World.grownBy_alloc w _ _) hg6, ?_⟩
  rcases hd6 with h | h
  · exact .inl h
  · simp at h; omega
set_option maxRecDepth 100000 in
set_option maxHeartbeats 4000000 in
theorem l07Store_any (g o : Nat) (nm : ByteArray) (W H N : Nat) (A : Option Addr) (c : Nat) (cs : List Bool) (w : World) (hn : nm.size ≤ 8) (hW : W ≤ 16) (hH : H ≤ 16) (hN : N ≤ 256) (hl : cs.length = N) (hg : g < w.heap.size)
    (h0 : w.cell? ⟨g, o, none⟩ = some (.string nm)) (h1 : w.cell? ⟨g, o + 1, none⟩ = some (.int .i64 W)) (h2 : w.cell? ⟨g, o + 2, none⟩ = some (.int .i64 H)) (h3 : w.cell? ⟨g, o + 3, none⟩ = some (.slice A N c)) (hA : Rd w w.heap.size 1 A N (cs.map bv)) :
    Calls Try.prog 22 #[.pointer (some ⟨g, o, none⟩)] w fun e w' => e = .returned (.string (txt (wholeL nm W H cs))) ∧ Below w.heap.size w w' := by
  have K0 : Hid (∀ w', Below w.heap.size w w' → w'.cell? ⟨g, o, none⟩ = some (.string nm) ∧ w'.cell? ⟨g, o + 1, none⟩ = some (.int .i64 W) ∧ w'.cell? ⟨g, o + 2, none⟩ = some (.int .i64 H) ∧ w'.cell? ⟨g, o + 3, none⟩ = some (.slice A N c)) :=
    fun w' h => ⟨(h.cell hg).trans h0, (h.cell hg).trans h1, (h.cell hg).trans h2, (h.cell hg).trans h3⟩
  have HA := Lib.hid hA
  have HL := Lib.hid hl
  have hpl : (pack cs).length ≤ 1026 := by have := pack_len cs; omega
  have HPL := Lib.hid hpl
  obtain ⟨v1, c1, CV0, bo1, hB1, hz1⟩ := conv_const (P := Try.prog) w 62 5 Try.underlying62 Try.underlying5 #[.int .u8 83, .int .u8 72, .int .u8 80, .int .u8 49] [83, 72, 80, 49] rfl 4 rfl (by unfold maxLen; omega)
  obtain ⟨d0, d1, d2, d3⟩ := K0.out v1 hB1
  have HBO1 := Lib.hid (bo1.alloc (.cells #[.int .u8 (nm.size : Int)] 5))
  have SR := Lib.hid (Src.fresh (P := Try.prog) (w := v1) (tx := 62) Try.underlying62 5 #[.int .u8 (nm.size : Int)] [nm.size] 1 rfl rfl v1.heap.size rfl)
  have hszA : w.heap.size ≤ (v1.alloc (.cells #[.int .u8 (nm.size : Int)] 5)).heap.size := by simp; omega
  have HB1 := Lib.hid (hB1.alloc (by omega) (.cells #[.int .u8 (nm.size : Int)] 5))
  have HZ1 := Lib.hid hz1
  clear bo1 hB1 h0 h1 h2 h3 hA hl hpl hz1
  go_enter Try.func22, Try.ntmps22
  go_wp2_with (first
    | (at_builtin; refine wpList_append_bytes (W := v1.alloc (.cells #[.int .u8 (nm.size : Int)] 5)) rfl _ _ _ _ rfl 5 (.int .u8 0) Try.underlying62 byteInfo rfl rfl w.heap.size w.heap.size 4 c1 _ rfl HBO1.out 1 [nm.size] SR.out (by omega) hszA ?_; intro g2 c2 w2 ho2 hg2 hd2
       have hz2 := hg2.size
       have B2 := Lib.hid (HB1.out.grown hg2 hszA (fun j e => by injection e with e; omega))
       have O2 := Lib.hid ho2
       obtain ⟨d0, d1, d2, d3⟩ := K0.out w2 B2.out
       obtain ⟨v3, c3, CV2, bo3, hb3⟩ := conv_bytes (P := Try.prog) w2 9 62 5 nm Try.underlying9 Try.underlying62 Try.underlying5 (by unfold maxLen; omega) w.heap.size B2.out.size
       have B3 := Lib.hid (B2.out.trans (hb3.mono B2.out.size))
       have O3 := Lib.hid (O2.out.below hb3)
       have SR3 := Lib.hid (Src.bytes (P := Try.prog) (w := v3) (tx := 62) Try.underlying62 w2.heap.size nm.size c3 (nums nm) (nums_len nm) bo3.cells)
       clear bo3 hb3 ho2 hg2 hd2 hz2)
    | (at_builtin; refine wpList_append_bytes (W := v3) rfl _ _ _ _ rfl 5 (.int .u8 0) Try.underlying62 byteInfo rfl rfl w.heap.size g2 (4 + 1) c2 _ rfl O3.out nm.size (nums nm) SR3.out (by omega) B3.out.size ?_; intro g4 c4 w4 ho4 hg4 hd4
       have B4 := Lib.hid (B3.out.grown hg4 B3.out.size (fun j e => by injection e with e; have := O3.out.ge; omega))
       have O4 := Lib.hid ho4
       obtain ⟨d0, d1, d2, d3⟩ := K0.out w4 B4.out
       clear ho4 hg4 hd4 SR3 O3 B3 O2 B2 CV2)
    | fail)
  refine (l07Pack_any N A c w4.heap.size cs w4 hN HL.out (Nat.le_refl _) ((HA.out.below B4.out).more B4.out.size)).mono ?_
  rintro e w5 ⟨rfl, hb5⟩
  have O5 := Lib.hid (O4.out.below hb5)
  have B5 := Lib.hid (B4.out.trans (hb5.mono B4.out.size))
  obtain ⟨d0, d1, d2, d3⟩ := K0.out w5 B5.out
  obtain ⟨pk, hpk⟩ : ∃ pk, pack cs = pk := ⟨_, rfl⟩
  have HPK := Lib.hid hpk
  rw [hpk] at HPL ⊢
  have hps : (txt pk).size = pk.length := txt_size pk
  have hpl := HPL.out
  have HB5z := Lib.hid (B5.out.size)
  clear hb5 hpk O4
  have hWA : w.heap.size ≤ (w5.alloc (.cells #[.int .u8 (IntKind.u8.wrap (W : Int)), .int .u8 (IntKind.u8.wrap (H : Int)), .int .u8 (IntKind.u8.wrap ((pk.length : Int).tmod 256)), .int .u8 (IntKind.u8.wrap (IntKind.i64.wrap ((pk.length : Int) / 256)))] 5)).drew.heap.size := by
    show _ ≤ (w5.heap.push _).size
    have := HB5z.out
    simp; omega
  have OA := Lib.hid ((O5.out.alloc (.cells #[.int .u8 (IntKind.u8.wrap (W : Int)), .int .u8 (IntKind.u8.wrap (H : Int)), .int .u8 (IntKind.u8.wrap ((pk.length : Int).tmod 256)), .int .u8 (IntKind.u8.wrap (IntKind.i64.wrap ((pk.length : Int) / 256)))] 5)).drew)
  have BA := Lib.hid ((B5.out.alloc HB5z.out (.cells #[.int .u8 (IntKind.u8.wrap (W : Int)), .int .u8 (IntKind.u8.wrap (H : Int)), .int .u8 (IntKind.u8.wrap ((pk.length : Int).tmod 256)), .int .u8 (IntKind.u8.wrap (IntKind.i64.wrap ((pk.length : Int) / 256)))] 5)).drew)
  have SA := Lib.hid (Src.fresh (P := Try.prog) (w := w5.drew) (tx := 62) Try.underlying62 5 #[.int .u8 (IntKind.u8.wrap (W : Int)), .int .u8 (IntKind.u8.wrap (H : Int)), .int .u8 (IntKind.u8.wrap ((pk.length : Int).tmod 256)), .int .u8 (IntKind.u8.wrap (IntKind.i64.wrap ((pk.length : Int) / 256)))] [W, H, pk.length % 256, pk.length / 256] 4 rfl (by rw [Int.tmod_eq_emod_of_nonneg (by omega), wrap_u8 (by omega) (by omega), wrap_u8 (by omega) (by omega), wrap_u8 (by omega) (by omega), wrap_i64 (by omega) (by omega), wrap_u8 (by omega) (by omega)]; simp [bc]) w5.heap.size rfl)
  go_wp2
  go_region_held3 (fun w' => w'.cell? ⟨g, o + 1, none⟩ = some (.int .i64 W) ∧ w'.cell? ⟨g, o + 2, none⟩ = some (.int .i64 H))
    (first | exact ⟨d1, d2⟩ | exact ⟨(K0.out _ BA.out).2.1, (K0.out _ BA.out).2.2.1⟩ | exact ⟨(K0.out _ B6.out).2.1, (K0.out _ B6.out).2.2.1⟩ | go_keep)
    (first
      | (refine step_append_bytes rfl _ _ _ _ rfl 5 (.int .u8 0) Try.underlying62 byteInfo rfl rfl w.heap.size g4 (5 + nm.size) c4 _ rfl OA.out 4 [W, H, pk.length % 256, pk.length / 256] SA.out (by omega) hWA ?_
         intro g6 c6 w6 ho6 hg6 hd6
         have B6 := Lib.hid (BA.out.grown hg6 hWA (fun j e => by injection e with e; have := OA.out.ge; omega))))
  have O6 := Lib.hid ho6
  obtain ⟨v7, c7, CV7, bo7, hb7⟩ := conv_bytes (P := Try.prog) w6 9 62 5 (txt pk) Try.underlying9 Try.underlying62 Try.underlying5 (by unfold maxLen; omega) w.heap.size B6.out.size
  have B7 := Lib.hid (B6.out.trans (hb7.mono B6.out.size))
  have O7 := Lib.hid (O6.out.below hb7)
  have hpk256 : ∀ x ∈ pk, x < 256 := by rw [← HPK.out]; exact pack_lt (by have := HL.out; omega)
  rw [nums_txt hpk256] at bo7
  have SR7 := Lib.hid (Src.bytes (P := Try.prog) (w := v7) (tx := 62) Try.underlying62 w6.heap.size (txt pk).size c7 pk (txt_size pk).symm bo7.cells)
  clear ho6 hg6 hd6 bo7 hb7 d0 d1 d2 d3 OA BA SA hWA
  rw [hps] at SR7 CV7
  go_wp2_with (first
    | (at_builtin; refine wpList_append_bytes (W := v7) rfl _ _ _ _ rfl 5 (.int .u8 0) Try.underlying62 byteInfo rfl rfl w.heap.size g6 (5 + nm.size + 4) c6 _ rfl O7.out pk.length pk SR7.out (by omega) B7.out.size ?_; intro g8 c8 w8 ho8 hg8 hd8
       have B8 := Lib.hid (B7.out.grown hg8 B7.out.size (fun j e => by injection e with e; have := O7.out.ge; omega))
       obtain ⟨bd, hbd⟩ : ∃ bd, [83, 72, 80, 49] ++ [nm.size] ++ nums nm ++ [W, H, pk.length % 256, pk.length / 256] ++ pk = bd := ⟨_, rfl⟩
       rw [hbd] at ho8
       have HBD := Lib.hid hbd
       have O8 := Lib.hid ho8
       have CV8 := conv_string (P := Try.prog) ho8 62 9 5 Try.underlying62 Try.underlying5 Try.underlying9
       clear ho8 hg8 hd8 hbd)
    | fail)
  have hbl : bd.length = 5 + nm.size + 4 + pk.length := O8.out.len
  have hE : Hid (bd = bodyL nm W H cs) := by
    unfold Hid bodyL
    rw [HPK.out, ← HBD.out]
    simp
  have hts : (txt bd).size ≤ maxLen := by rw [txt_size]; unfold maxLen; omega
  refine (l01Check_any 0 (txt bd) w8 hts (by omega)).mono ?_
  rintro e w9 ⟨rfl, h9⟩
  obtain rfl := h9.symm
  obtain ⟨kk, hkk⟩ : ∃ kk, chk 0 (txt bd).data.toList = kk := ⟨_, rfl⟩
  have hk1 : kk < 65003 := by rw [← hkk]; exact chkL_lt bd
  have HKK : Hid (chkL bd = kk) := hkk
  rw [hkk]
  clear hkk h9 hts CV7 CV8
  have HBOF := Lib.hid (O8.out.alloc (.cells #[.int .u8 ((kk : Int) % 256), .int .u8 ((kk : Int) / 256)] 5))
  have SRF := Lib.hid (Src.fresh (P := Try.prog) (w := w8) (tx := 62) Try.underlying62 5 #[.int .u8 ((kk : Int) % 256), .int .u8 ((kk : Int) / 256)] [kk % 256, kk / 256] 2 rfl (by simp [bc]) w8.heap.size rfl)
  have BF := Lib.hid (B8.out.alloc B8.out.size (.cells #[.int .u8 ((kk : Int) % 256), .int .u8 ((kk : Int) / 256)] 5))
  have hszF := BF.out.size
  have e3 : (kk : Int) / 256 % 256 = (kk : Int) / 256 := by omega
  go_wp2_with (first
    | (at_builtin; refine wpList_append_bytes (W := w8.alloc (.cells #[.int .u8 ((kk : Int) % 256), .int .u8 ((kk : Int) / 256)] 5)) rfl _ _ _ _ rfl 5 (.int .u8 0) Try.underlying62 byteInfo rfl rfl w.heap.size g8 (5 + nm.size + 4 + pk.length) c8 bd rfl HBOF.out 2 [kk % 256, kk / 256] SRF.out (by omega) hszF ?_; intro gf cf wf hof hgf hdf
       have BFF := Lib.hid (BF.out.grown hgf hszF (fun j e => by injection e with e; have := HBOF.out.ge; omega))
       obtain ⟨al, hal⟩ : ∃ al, bd ++ [kk % 256, kk / 256] = al := ⟨_, rfl⟩
       rw [hal] at hof
       have HAL := Lib.hid hal
       have CVF := conv_string (P := Try.prog) hof 62 9 5 Try.underlying62 Try.underlying5 Try.underlying9
       clear hof hgf hdf hal)
    | fail)
  go_ret
  refine ⟨?_, BFF.out⟩
  unfold wholeL
  rw [← hE.out, HKK.out, HAL.out]
  rfl
end Go.Proofs.Ytlklpfjcnbkhlaa
