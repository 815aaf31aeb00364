/- Facts about the types of the program that is given, each by computing. -/
import Derived.Test.YtgnomlceahpbkaaGreatAData
namespace Go.Abs
open Go.RowKit Go.Proofs
set_option linter.unusedVariables false
set_option linter.unusedSimpArgs false
set_option maxRecDepth 100000

theorem agg_uint8 : aggT Tryz.prog 5 = some false := by kernel_rfl
theorem sz_uint8 : szT Tryz.prog 5 = some 1 := by kernel_rfl
theorem by_uint8 : (Tryz.prog.info? 5).map (·.bytes) = some 1 := by kernel_rfl
theorem zv_uint8 : zeroVals Tryz.prog 5 = some [.int .u8 0] := by kernel_rfl
theorem za_uint8 : zeroAtoms Tryz.prog 5 = some [.v (.int .u8 0)] := by kernel_rfl
attribute [go_sem] za_uint8 sz_uint8
theorem ld_uint8 {m : Mem} {cs : List Value} {K : AV → Prop} : onR (loadS Tryz.prog 5 m (.at (.pi cs))) K = (0 < cs.length ∧ evK (todo (cs.getD 0 undef)) fun u => K (.at (.v u))) := load_pi1 agg_uint8
theorem lp_uint8 {κ ver sz j off : Nat} {m : Mem} {K : AV → Prop} : loadK Tryz.prog 5 m (.at (.pa κ ver sz j off)) K = (off < sz ∧ rowAt (todo (m κ)) ver sz j fun r => evK (todo (r.getD off undef)) fun u => K (.at (.v u))) := loadK_paA agg_uint8 sz_uint8
attribute [go_sem] ld_uint8 lp_uint8
theorem lb_uint8 {m : Mem} {κ ver off : Nat} {K : AV → Prop} : onR (loadS Tryz.prog 5 m (.at (.bx κ ver off))) K = boxAt (todo (m κ)) ver fun cells => onO (todo cells[off]?) fun a => K (.at a) := load_bxK1 agg_uint8
theorem sb_uint8 {m : Mem} {κ ver off : Nat} {X : AV} {K : Mem → Prop} : onR (storeS Tryz.prog 5 m (.at (.bx κ ver off)) X) K = boxAt (todo (m κ)) ver fun cells => onO (todo (atomsOf X)) fun new => new.length = 1 ∧ off + 1 ≤ cells.length ∧ evK (todo (splice cells off new)) fun cs => K (upd m κ (.box ver cs)) := store_bxK sz_uint8
theorem sp_uint8 {m : Mem} {κ ver sz j off : Nat} {X : AV} {K : Mem → Prop} : onR (storeS Tryz.prog 5 m (.at (.pa κ ver sz j off)) X) K = arrAt (todo (m κ)) ver sz fun rows => onO (todo ((atomsOf X).bind valsOf)) fun us => us.length = 1 ∧ (j < rows.length ∧ off + 1 ≤ sz) ∧ evK (todo (rows.set j (splice (rows.getD j []) off us))) fun rs => K (upd m κ (.arr ver sz rs)) := store_paK sz_uint8
attribute [go_sem] lb_uint8 sb_uint8 sp_uint8
theorem und_uint8S : Tryz.prog.underlying 72 = some (.slice 5) := Tryz.underlying72
theorem agg_uint8S : aggT Tryz.prog 72 = some false := by kernel_rfl
theorem sz_uint8S : szT Tryz.prog 72 = some 1 := by kernel_rfl
theorem ix_uint8S {rows : List (List Value)} {k : IntKind} {i : Int} {K : AV → Prop} : onR (indexAddrS Tryz.prog 72 (.at (.im 1 rows)) (.at (.v (.int k i)))) K = ((0 ≤ i ∧ i < (rows.length : Int)) ∧ ∀ r, rows[i.toNat]? = some r → K (.at (.pi r))) := idx_im und_uint8S sz_uint8
theorem io_uint8S {κ ver n : Nat} {k : IntKind} {i : Int} {K : AV → Prop} : onR (indexAddrS Tryz.prog 72 (.at (.ow κ ver 1 n)) (.at (.v (.int k i)))) K = ((0 ≤ i ∧ i < (n : Int)) ∧ evK (todo i.toNat) fun j => K (.at (.pa κ ver 1 j 0))) := idx_ow und_uint8S sz_uint8
theorem ln_uint8S {sz : Nat} {rows : List (List Value)} {K : Value → Prop} : onO (lenS Tryz.prog 72 (.at (.im sz rows))) K = K (.int .i64 rows.length) := len_im und_uint8S
theorem lo_uint8S {κ ver sz n : Nat} {K : Value → Prop} : onO (lenS Tryz.prog 72 (.at (.ow κ ver sz n))) K = K (.int .i64 n) := len_ow und_uint8S
theorem lz_uint8S {K : Value → Prop} : onO (lenS Tryz.prog 72 (.at .nil)) K = K (.int .i64 0) := len_nil und_uint8S
theorem si_uint8S : siOf Tryz.prog 72 = some ⟨5, 1, 1, [.int .u8 0]⟩ := by kernel_rfl
theorem ci_uint8S {nx : Nat} {q : Qm} {t : Nat → AV} {m : Mem} {rows : List (List Value)} {lo hi : Option Operand} {K : AV → Mem → Prop} : onM (sliceS Tryz.prog nx q 72 ⟨t, m⟩ (.at (.im 1 rows)) lo hi none) K = onO (todo (boundS ⟨t, m⟩ lo 0)) fun l => onO (todo (boundS ⟨t, m⟩ hi rows.length)) fun h => (0 ≤ l ∧ l ≤ h ∧ h ≤ (rows.length : Int)) ∧ evK (todo ((rows.drop l.toNat).take (h.toNat - l.toNat))) fun rs => K (.at (.im 1 rs)) m := cut_im_k und_uint8S sz_uint8
theorem cn_uint8S {nx : Nat} {q : Qm} {t : Nat → AV} {m : Mem} {lo hi : Option Operand} {K : AV → Mem → Prop} : onM (sliceS Tryz.prog nx q 72 ⟨t, m⟩ (.at .nil) lo hi none) K = onO (todo (boundS ⟨t, m⟩ lo 0)) fun l => onO (todo (boundS ⟨t, m⟩ hi 0)) fun h => (l = 0 ∧ h = 0) ∧ K (.at .nil) m := cut_nil_k und_uint8S sz_uint8
attribute [go_sem] ix_uint8S io_uint8S ln_uint8S lo_uint8S lz_uint8S si_uint8S ci_uint8S cn_uint8S
attribute [go_sem] sz_uint8S
theorem lb_uint8S {m : Mem} {κ ver off : Nat} {K : AV → Prop} : onR (loadS Tryz.prog 72 m (.at (.bx κ ver off))) K = boxAt (todo (m κ)) ver fun cells => onO (todo cells[off]?) fun a => K (.at a) := load_bxK1 agg_uint8S
theorem sb_uint8S {m : Mem} {κ ver off : Nat} {X : AV} {K : Mem → Prop} : onR (storeS Tryz.prog 72 m (.at (.bx κ ver off)) X) K = boxAt (todo (m κ)) ver fun cells => onO (todo (atomsOf X)) fun new => new.length = 1 ∧ off + 1 ≤ cells.length ∧ evK (todo (splice cells off new)) fun cs => K (upd m κ (.box ver cs)) := store_bxK sz_uint8S
theorem sp_uint8S {m : Mem} {κ ver sz j off : Nat} {X : AV} {K : Mem → Prop} : onR (storeS Tryz.prog 72 m (.at (.pa κ ver sz j off)) X) K = arrAt (todo (m κ)) ver sz fun rows => onO (todo ((atomsOf X).bind valsOf)) fun us => us.length = 1 ∧ (j < rows.length ∧ off + 1 ≤ sz) ∧ evK (todo (rows.set j (splice (rows.getD j []) off us))) fun rs => K (upd m κ (.arr ver sz rs)) := store_paK sz_uint8S
attribute [go_sem] lb_uint8S sb_uint8S sp_uint8S
theorem agg_specl1Cur : aggT Tryz.prog 191 = some true := by kernel_rfl
theorem sz_specl1Cur : szT Tryz.prog 191 = some 3 := by kernel_rfl
theorem by_specl1Cur : (Tryz.prog.info? 191).map (·.bytes) = some 40 := by kernel_rfl
theorem zv_specl1Cur : zeroVals Tryz.prog 191 = some [.slice none 0 0, .int .i64 0, .int .i64 0] := by kernel_rfl
theorem za_specl1Cur : zeroAtoms Tryz.prog 191 = some [.nil, .v (.int .i64 0), .v (.int .i64 0)] := by kernel_rfl
attribute [go_sem] za_specl1Cur sz_specl1Cur
theorem ld_specl1Cur {m : Mem} {cs : List Value} {K : AV → Prop} : onR (loadS Tryz.prog 191 m (.at (.pi cs))) K = (3 ≤ cs.length ∧ evK (todo ((cs.take 3).map A.v)) fun cs => K (.ag cs)) := load_piN agg_specl1Cur sz_specl1Cur
theorem ti_specl1Cur : tiOf Tryz.prog 191 = some ⟨[⟨ "b", 72, 0, false, "", "loop.example/g03008/spec", 0⟩, ⟨ "i", 3, 1, false, "", "loop.example/g03008/spec", 24⟩, ⟨ "h", 3, 2, false, "", "loop.example/g03008/spec", 32⟩], [.nil, .v (.int .i64 0), .v (.int .i64 0)]⟩ := by kernel_rfl
theorem lp_specl1Cur {κ ver sz j off : Nat} {m : Mem} {K : AV → Prop} : loadK Tryz.prog 191 m (.at (.pa κ ver sz j off)) K = (off + 3 ≤ sz ∧ rowAt (todo (m κ)) ver sz j fun r => evK (todo (((r.drop off).take 3).map A.v)) fun cs => K (.ag cs)) := loadK_paB agg_specl1Cur sz_specl1Cur
attribute [go_sem] ld_specl1Cur ti_specl1Cur lp_specl1Cur
theorem fp_specl1Cur_0 {cs : List Value} {K : AV → Prop} : onO (fieldAddrS Tryz.prog 191 0 (.at (.pi cs))) K = evK (todo (cs.drop 0)) (fun c => K (.at (.pi c))) := fa_pi (fd := ⟨ "b", 72, 0, false, "", "loop.example/g03008/spec", 0⟩) Tryz.underlying191 rfl sz_uint8S
theorem fo_specl1Cur_0 {κ ver sz i off : Nat} {K : AV → Prop} : onO (fieldAddrS Tryz.prog 191 0 (.at (.pa κ ver sz i off))) K = evK (todo (off + 0)) (fun o => K (.at (.pa κ ver sz i o))) := fa_pa (fd := ⟨ "b", 72, 0, false, "", "loop.example/g03008/spec", 0⟩) Tryz.underlying191 rfl sz_uint8S
theorem fb_specl1Cur_0 {κ ver off : Nat} {K : AV → Prop} : onO (fieldAddrS Tryz.prog 191 0 (.at (.bx κ ver off))) K = evK (todo (off + 0)) (fun o => K (.at (.bx κ ver o))) := fa_bx (fd := ⟨ "b", 72, 0, false, "", "loop.example/g03008/spec", 0⟩) Tryz.underlying191 rfl sz_uint8S
theorem fg_specl1Cur_0 {cs : List A} {K : AV → Prop} : onR (fieldS Tryz.prog 191 0 (.ag cs)) K = onO (todo cs[0]?) fun a => K (.at a) := field_1K (fd := ⟨ "b", 72, 0, false, "", "loop.example/g03008/spec", 0⟩) Tryz.underlying191 rfl agg_uint8S
attribute [go_sem] fp_specl1Cur_0 fo_specl1Cur_0 fb_specl1Cur_0 fg_specl1Cur_0
theorem fp_specl1Cur_1 {cs : List Value} {K : AV → Prop} : onO (fieldAddrS Tryz.prog 191 1 (.at (.pi cs))) K = evK (todo (cs.drop 1)) (fun c => K (.at (.pi c))) := fa_pi (fd := ⟨ "i", 3, 1, false, "", "loop.example/g03008/spec", 24⟩) Tryz.underlying191 rfl sz_int
theorem fo_specl1Cur_1 {κ ver sz i off : Nat} {K : AV → Prop} : onO (fieldAddrS Tryz.prog 191 1 (.at (.pa κ ver sz i off))) K = evK (todo (off + 1)) (fun o => K (.at (.pa κ ver sz i o))) := fa_pa (fd := ⟨ "i", 3, 1, false, "", "loop.example/g03008/spec", 24⟩) Tryz.underlying191 rfl sz_int
theorem fb_specl1Cur_1 {κ ver off : Nat} {K : AV → Prop} : onO (fieldAddrS Tryz.prog 191 1 (.at (.bx κ ver off))) K = evK (todo (off + 1)) (fun o => K (.at (.bx κ ver o))) := fa_bx (fd := ⟨ "i", 3, 1, false, "", "loop.example/g03008/spec", 24⟩) Tryz.underlying191 rfl sz_int
theorem fg_specl1Cur_1 {cs : List A} {K : AV → Prop} : onR (fieldS Tryz.prog 191 1 (.ag cs)) K = onO (todo cs[1]?) fun a => K (.at a) := field_1K (fd := ⟨ "i", 3, 1, false, "", "loop.example/g03008/spec", 24⟩) Tryz.underlying191 rfl agg_int
attribute [go_sem] fp_specl1Cur_1 fo_specl1Cur_1 fb_specl1Cur_1 fg_specl1Cur_1
theorem fp_specl1Cur_2 {cs : List Value} {K : AV → Prop} : onO (fieldAddrS Tryz.prog 191 2 (.at (.pi cs))) K = evK (todo (cs.drop 2)) (fun c => K (.at (.pi c))) := fa_pi (fd := ⟨ "h", 3, 2, false, "", "loop.example/g03008/spec", 32⟩) Tryz.underlying191 rfl sz_int
theorem fo_specl1Cur_2 {κ ver sz i off : Nat} {K : AV → Prop} : onO (fieldAddrS Tryz.prog 191 2 (.at (.pa κ ver sz i off))) K = evK (todo (off + 2)) (fun o => K (.at (.pa κ ver sz i o))) := fa_pa (fd := ⟨ "h", 3, 2, false, "", "loop.example/g03008/spec", 32⟩) Tryz.underlying191 rfl sz_int
theorem fb_specl1Cur_2 {κ ver off : Nat} {K : AV → Prop} : onO (fieldAddrS Tryz.prog 191 2 (.at (.bx κ ver off))) K = evK (todo (off + 2)) (fun o => K (.at (.bx κ ver o))) := fa_bx (fd := ⟨ "h", 3, 2, false, "", "loop.example/g03008/spec", 32⟩) Tryz.underlying191 rfl sz_int
theorem fg_specl1Cur_2 {cs : List A} {K : AV → Prop} : onR (fieldS Tryz.prog 191 2 (.ag cs)) K = onO (todo cs[2]?) fun a => K (.at a) := field_1K (fd := ⟨ "h", 3, 2, false, "", "loop.example/g03008/spec", 32⟩) Tryz.underlying191 rfl agg_int
attribute [go_sem] fp_specl1Cur_2 fo_specl1Cur_2 fb_specl1Cur_2 fg_specl1Cur_2
theorem lb_specl1Cur {m : Mem} {κ ver off : Nat} {K : AV → Prop} : onR (loadS Tryz.prog 191 m (.at (.bx κ ver off))) K = boxAt (todo (m κ)) ver fun cells => off + 3 ≤ cells.length ∧ evK (todo ((cells.drop off).take 3)) fun cs => K (.ag cs) := load_bxKN agg_specl1Cur sz_specl1Cur
theorem sb_specl1Cur {m : Mem} {κ ver off : Nat} {X : AV} {K : Mem → Prop} : onR (storeS Tryz.prog 191 m (.at (.bx κ ver off)) X) K = boxAt (todo (m κ)) ver fun cells => onO (todo (atomsOf X)) fun new => new.length = 3 ∧ off + 3 ≤ cells.length ∧ evK (todo (splice cells off new)) fun cs => K (upd m κ (.box ver cs)) := store_bxK sz_specl1Cur
theorem sp_specl1Cur {m : Mem} {κ ver sz j off : Nat} {X : AV} {K : Mem → Prop} : onR (storeS Tryz.prog 191 m (.at (.pa κ ver sz j off)) X) K = arrAt (todo (m κ)) ver sz fun rows => onO (todo ((atomsOf X).bind valsOf)) fun us => us.length = 3 ∧ (j < rows.length ∧ off + 3 ≤ sz) ∧ evK (todo (rows.set j (splice (rows.getD j []) off us))) fun rs => K (upd m κ (.arr ver sz rs)) := store_paK sz_specl1Cur
attribute [go_sem] lb_specl1Cur sb_specl1Cur sp_specl1Cur
theorem cv_uint8 {n : Int} {k : IntKind} {K : Value → Prop} : onO (convS Tryz.prog 5 3 (.at (.v (.int k n)))) K = K (.int .i64 (IntKind.wrap .i64 n)) := conv_ii Tryz.underlying5 Tryz.underlying3
attribute [go_sem] cv_uint8
end Go.Abs
