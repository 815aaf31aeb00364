/- Facts about the types of the program that is given, each by computing. -/
import Derived.Test.YtfdkpmbpnppllaaALibC
import Derived.Test.YtfdkpmbpnppllaaProg
namespace Go.Abs
open Go.RowKit Go.Proofs
set_option linter.unusedVariables false
set_option linter.unusedSimpArgs false
set_option maxRecDepth 100000
theorem mixed : Try.prog.follows .mixedOrders = true := by kernel_rfl
theorem agg_int : aggT Try.prog 3 = some false := by kernel_rfl
theorem sz_int : szT Try.prog 3 = some 1 := by kernel_rfl
theorem by_int : (Try.prog.info? 3).map (·.bytes) = some 8 := by kernel_rfl
theorem zv_int : zeroVals Try.prog 3 = some [.int .i64 0] := by kernel_rfl
theorem za_int : zeroAtoms Try.prog 3 = some [.v (.int .i64 0)] := by kernel_rfl
attribute [go_sem] za_int sz_int
theorem ld_int {m : Mem} {cs : List Value} {K : AV → Prop} : onR (loadS Try.prog 3 m (.at (.pi cs))) K = (0 < cs.length ∧ evK (todo (cs.getD 0 undef)) fun u => K (.at (.v u))) := load_pi1 agg_int
theorem lp_int {κ ver sz j off : Nat} {m : Mem} {K : AV → Prop} : loadK Try.prog 3 m (.at (.pa κ ver sz j off)) K = (off < sz ∧ rowAt (todo (m κ)) ver sz j fun r => evK (todo (r.getD off undef)) fun u => K (.at (.v u))) := loadK_paA agg_int sz_int
attribute [go_sem] ld_int lp_int
theorem lb_int {m : Mem} {κ ver off : Nat} {K : AV → Prop} : onR (loadS Try.prog 3 m (.at (.bx κ ver off))) K = boxAt (todo (m κ)) ver fun cells => onO (todo cells[off]?) fun a => K (.at a) := load_bxK1 agg_int
theorem sb_int {m : Mem} {κ ver off : Nat} {X : AV} {K : Mem → Prop} : onR (storeS Try.prog 3 m (.at (.bx κ ver off)) X) K = boxAt (todo (m κ)) ver fun cells => onO (todo (atomsOf X)) fun new => new.length = 1 ∧ off + 1 ≤ cells.length ∧ evK (todo (splice cells off new)) fun cs => K (upd m κ (.box ver cs)) := store_bxK sz_int
theorem sp_int {m : Mem} {κ ver sz j off : Nat} {X : AV} {K : Mem → Prop} : onR (storeS Try.prog 3 m (.at (.pa κ ver sz j off)) X) K = arrAt (todo (m κ)) ver sz fun rows => onO (todo ((atomsOf X).bind valsOf)) fun us => us.length = 1 ∧ (j < rows.length ∧ off + 1 ≤ sz) ∧ evK (todo (rows.set j (splice (rows.getD j []) off us))) fun rs => K (upd m κ (.arr ver sz rs)) := store_paK sz_int
attribute [go_sem] lb_int sb_int sp_int
theorem agg_bool : aggT Try.prog 4 = some false := by kernel_rfl
theorem sz_bool : szT Try.prog 4 = some 1 := by kernel_rfl
theorem by_bool : (Try.prog.info? 4).map (·.bytes) = some 1 := by kernel_rfl
theorem zv_bool : zeroVals Try.prog 4 = some [.bool false] := by kernel_rfl
theorem za_bool : zeroAtoms Try.prog 4 = some [.v (.bool false)] := by kernel_rfl
attribute [go_sem] za_bool sz_bool
theorem ld_bool {m : Mem} {cs : List Value} {K : AV → Prop} : onR (loadS Try.prog 4 m (.at (.pi cs))) K = (0 < cs.length ∧ evK (todo (cs.getD 0 undef)) fun u => K (.at (.v u))) := load_pi1 agg_bool
theorem lp_bool {κ ver sz j off : Nat} {m : Mem} {K : AV → Prop} : loadK Try.prog 4 m (.at (.pa κ ver sz j off)) K = (off < sz ∧ rowAt (todo (m κ)) ver sz j fun r => evK (todo (r.getD off undef)) fun u => K (.at (.v u))) := loadK_paA agg_bool sz_bool
attribute [go_sem] ld_bool lp_bool
theorem lb_bool {m : Mem} {κ ver off : Nat} {K : AV → Prop} : onR (loadS Try.prog 4 m (.at (.bx κ ver off))) K = boxAt (todo (m κ)) ver fun cells => onO (todo cells[off]?) fun a => K (.at a) := load_bxK1 agg_bool
theorem sb_bool {m : Mem} {κ ver off : Nat} {X : AV} {K : Mem → Prop} : onR (storeS Try.prog 4 m (.at (.bx κ ver off)) X) K = boxAt (todo (m κ)) ver fun cells => onO (todo (atomsOf X)) fun new => new.length = 1 ∧ off + 1 ≤ cells.length ∧ evK (todo (splice cells off new)) fun cs => K (upd m κ (.box ver cs)) := store_bxK sz_bool
theorem sp_bool {m : Mem} {κ ver sz j off : Nat} {X : AV} {K : Mem → Prop} : onR (storeS Try.prog 4 m (.at (.pa κ ver sz j off)) X) K = arrAt (todo (m κ)) ver sz fun rows => onO (todo ((atomsOf X).bind valsOf)) fun us => us.length = 1 ∧ (j < rows.length ∧ off + 1 ≤ sz) ∧ evK (todo (rows.set j (splice (rows.getD j []) off us))) fun rs => K (upd m κ (.arr ver sz rs)) := store_paK sz_bool
attribute [go_sem] lb_bool sb_bool sp_bool
theorem und_bool : Try.prog.underlying 4 = some .bool := Try.underlying4
theorem beql {p q : Bool} {K : Value → Prop} : onR (binS Try.prog .eql 4 (.at (.v (.bool p))) (.at (.v (.bool q)))) K = K (.bool (p == q)) := bin_beql und_bool
theorem bneq {p q : Bool} {K : Value → Prop} : onR (binS Try.prog .neq 4 (.at (.v (.bool p))) (.at (.v (.bool q)))) K = K (.bool (!(p == q))) := bin_bneq und_bool
attribute [go_sem] beql bneq
theorem agg_string : aggT Try.prog 9 = some false := by kernel_rfl
theorem sz_string : szT Try.prog 9 = some 1 := by kernel_rfl
theorem by_string : (Try.prog.info? 9).map (·.bytes) = some 16 := by kernel_rfl
theorem zv_string : zeroVals Try.prog 9 = some [.string ByteArray.empty] := by kernel_rfl
theorem za_string : zeroAtoms Try.prog 9 = some [.v (.string ByteArray.empty)] := by kernel_rfl
attribute [go_sem] za_string sz_string
theorem ld_string {m : Mem} {cs : List Value} {K : AV → Prop} : onR (loadS Try.prog 9 m (.at (.pi cs))) K = (0 < cs.length ∧ evK (todo (cs.getD 0 undef)) fun u => K (.at (.v u))) := load_pi1 agg_string
theorem lp_string {κ ver sz j off : Nat} {m : Mem} {K : AV → Prop} : loadK Try.prog 9 m (.at (.pa κ ver sz j off)) K = (off < sz ∧ rowAt (todo (m κ)) ver sz j fun r => evK (todo (r.getD off undef)) fun u => K (.at (.v u))) := loadK_paA agg_string sz_string
attribute [go_sem] ld_string lp_string
theorem lb_string {m : Mem} {κ ver off : Nat} {K : AV → Prop} : onR (loadS Try.prog 9 m (.at (.bx κ ver off))) K = boxAt (todo (m κ)) ver fun cells => onO (todo cells[off]?) fun a => K (.at a) := load_bxK1 agg_string
theorem sb_string {m : Mem} {κ ver off : Nat} {X : AV} {K : Mem → Prop} : onR (storeS Try.prog 9 m (.at (.bx κ ver off)) X) K = boxAt (todo (m κ)) ver fun cells => onO (todo (atomsOf X)) fun new => new.length = 1 ∧ off + 1 ≤ cells.length ∧ evK (todo (splice cells off new)) fun cs => K (upd m κ (.box ver cs)) := store_bxK sz_string
theorem sp_string {m : Mem} {κ ver sz j off : Nat} {X : AV} {K : Mem → Prop} : onR (storeS Try.prog 9 m (.at (.pa κ ver sz j off)) X) K = arrAt (todo (m κ)) ver sz fun rows => onO (todo ((atomsOf X).bind valsOf)) fun us => us.length = 1 ∧ (j < rows.length ∧ off + 1 ≤ sz) ∧ evK (todo (rows.set j (splice (rows.getD j []) off us))) fun rs => K (upd m κ (.arr ver sz rs)) := store_paK sz_string
attribute [go_sem] lb_string sb_string sp_string
theorem und_intS : Try.prog.underlying 22 = some (.slice 3) := Try.underlying22
theorem agg_intS : aggT Try.prog 22 = some false := by kernel_rfl
theorem sz_intS : szT Try.prog 22 = some 1 := by kernel_rfl
theorem ix_intS {rows : List (List Value)} {k : IntKind} {i : Int} {K : AV → Prop} : onR (indexAddrS Try.prog 22 (.at (.im 1 rows)) (.at (.v (.int k i)))) K = ((0 ≤ i ∧ i < (rows.length : Int)) ∧ ∀ r, rows[i.toNat]? = some r → K (.at (.pi r))) := idx_im und_intS sz_int
theorem io_intS {κ ver n : Nat} {k : IntKind} {i : Int} {K : AV → Prop} : onR (indexAddrS Try.prog 22 (.at (.ow κ ver 1 n)) (.at (.v (.int k i)))) K = ((0 ≤ i ∧ i < (n : Int)) ∧ evK (todo i.toNat) fun j => K (.at (.pa κ ver 1 j 0))) := idx_ow und_intS sz_int
theorem ln_intS {sz : Nat} {rows : List (List Value)} {K : Value → Prop} : onO (lenS Try.prog 22 (.at (.im sz rows))) K = K (.int .i64 rows.length) := len_im und_intS
theorem lo_intS {κ ver sz n : Nat} {K : Value → Prop} : onO (lenS Try.prog 22 (.at (.ow κ ver sz n))) K = K (.int .i64 n) := len_ow und_intS
theorem lz_intS {K : Value → Prop} : onO (lenS Try.prog 22 (.at .nil)) K = K (.int .i64 0) := len_nil und_intS
theorem si_intS : siOf Try.prog 22 = some ⟨3, 1, 8, [.int .i64 0]⟩ := by kernel_rfl
theorem ci_intS {nx : Nat} {q : Qm} {t : Nat → AV} {m : Mem} {rows : List (List Value)} {lo hi : Option Operand} {K : AV → Mem → Prop} : onM (sliceS Try.prog nx q 22 ⟨t, m⟩ (.at (.im 1 rows)) lo hi none) K = onO (todo (boundS ⟨t, m⟩ lo 0)) fun l => onO (todo (boundS ⟨t, m⟩ hi rows.length)) fun h => (0 ≤ l ∧ l ≤ h ∧ h ≤ (rows.length : Int)) ∧ evK (todo ((rows.drop l.toNat).take (h.toNat - l.toNat))) fun rs => K (.at (.im 1 rs)) m := cut_im_k und_intS sz_int
theorem cn_intS {nx : Nat} {q : Qm} {t : Nat → AV} {m : Mem} {lo hi : Option Operand} {K : AV → Mem → Prop} : onM (sliceS Try.prog nx q 22 ⟨t, m⟩ (.at .nil) lo hi none) K = onO (todo (boundS ⟨t, m⟩ lo 0)) fun l => onO (todo (boundS ⟨t, m⟩ hi 0)) fun h => (l = 0 ∧ h = 0) ∧ K (.at .nil) m := cut_nil_k und_intS sz_int
attribute [go_sem] ix_intS io_intS ln_intS lo_intS lz_intS si_intS ci_intS cn_intS
attribute [go_sem] sz_intS
theorem lb_intS {m : Mem} {κ ver off : Nat} {K : AV → Prop} : onR (loadS Try.prog 22 m (.at (.bx κ ver off))) K = boxAt (todo (m κ)) ver fun cells => onO (todo cells[off]?) fun a => K (.at a) := load_bxK1 agg_intS
theorem sb_intS {m : Mem} {κ ver off : Nat} {X : AV} {K : Mem → Prop} : onR (storeS Try.prog 22 m (.at (.bx κ ver off)) X) K = boxAt (todo (m κ)) ver fun cells => onO (todo (atomsOf X)) fun new => new.length = 1 ∧ off + 1 ≤ cells.length ∧ evK (todo (splice cells off new)) fun cs => K (upd m κ (.box ver cs)) := store_bxK sz_intS
theorem sp_intS {m : Mem} {κ ver sz j off : Nat} {X : AV} {K : Mem → Prop} : onR (storeS Try.prog 22 m (.at (.pa κ ver sz j off)) X) K = arrAt (todo (m κ)) ver sz fun rows => onO (todo ((atomsOf X).bind valsOf)) fun us => us.length = 1 ∧ (j < rows.length ∧ off + 1 ≤ sz) ∧ evK (todo (rows.set j (splice (rows.getD j []) off us))) fun rs => K (upd m κ (.arr ver sz rs)) := store_paK sz_intS
attribute [go_sem] lb_intS sb_intS sp_intS
theorem agg_implLand : aggT Try.prog 24 = some true := by kernel_rfl
theorem sz_implLand : szT Try.prog 24 = some 3 := by kernel_rfl
theorem by_implLand : (Try.prog.info? 24).map (·.bytes) = some 40 := by kernel_rfl
theorem zv_implLand : zeroVals Try.prog 24 = some [.int .i64 0, .int .i64 0, .slice none 0 0] := by kernel_rfl
theorem za_implLand : zeroAtoms Try.prog 24 = some [.v (.int .i64 0), .v (.int .i64 0), .nil] := by kernel_rfl
attribute [go_sem] za_implLand sz_implLand
theorem ld_implLand {m : Mem} {cs : List Value} {K : AV → Prop} : onR (loadS Try.prog 24 m (.at (.pi cs))) K = (3 ≤ cs.length ∧ evK (todo ((cs.take 3).map A.v)) fun cs => K (.ag cs)) := load_piN agg_implLand sz_implLand
theorem ti_implLand : tiOf Try.prog 24 = some ⟨[⟨"W", 3, 0, false, "", "", 0⟩, ⟨"H", 3, 1, false, "", "", 8⟩, ⟨"Cells", 22, 2, false, "", "", 16⟩], [.v (.int .i64 0), .v (.int .i64 0), .nil]⟩ := by kernel_rfl
theorem lp_implLand {κ ver sz j off : Nat} {m : Mem} {K : AV → Prop} : loadK Try.prog 24 m (.at (.pa κ ver sz j off)) K = (off + 3 ≤ sz ∧ rowAt (todo (m κ)) ver sz j fun r => evK (todo (((r.drop off).take 3).map A.v)) fun cs => K (.ag cs)) := loadK_paB agg_implLand sz_implLand
attribute [go_sem] ld_implLand ti_implLand lp_implLand
theorem fp_implLand_0 {cs : List Value} {K : AV → Prop} : onO (fieldAddrS Try.prog 24 0 (.at (.pi cs))) K = evK (todo (cs.drop 0)) (fun c => K (.at (.pi c))) := fa_pi (fd := ⟨"W", 3, 0, false, "", "", 0⟩) Try.underlying24 rfl sz_int
theorem fo_implLand_0 {κ ver sz i off : Nat} {K : AV → Prop} : onO (fieldAddrS Try.prog 24 0 (.at (.pa κ ver sz i off))) K = evK (todo (off + 0)) (fun o => K (.at (.pa κ ver sz i o))) := fa_pa (fd := ⟨"W", 3, 0, false, "", "", 0⟩) Try.underlying24 rfl sz_int
theorem fb_implLand_0 {κ ver off : Nat} {K : AV → Prop} : onO (fieldAddrS Try.prog 24 0 (.at (.bx κ ver off))) K = evK (todo (off + 0)) (fun o => K (.at (.bx κ ver o))) := fa_bx (fd := ⟨"W", 3, 0, false, "", "", 0⟩) Try.underlying24 rfl sz_int
theorem fg_implLand_0 {cs : List A} {K : AV → Prop} : onR (fieldS Try.prog 24 0 (.ag cs)) K = onO (todo cs[0]?) fun a => K (.at a) := field_1K (fd := ⟨"W", 3, 0, false, "", "", 0⟩) Try.underlying24 rfl agg_int
attribute [go_sem] fp_implLand_0 fo_implLand_0 fb_implLand_0 fg_implLand_0
theorem fp_implLand_1 {cs : List Value} {K : AV → Prop} : onO (fieldAddrS Try.prog 24 1 (.at (.pi cs))) K = evK (todo (cs.drop 1)) (fun c => K (.at (.pi c))) := fa_pi (fd := ⟨"H", 3, 1, false, "", "", 8⟩) Try.underlying24 rfl sz_int
theorem fo_implLand_1 {κ ver sz i off : Nat} {K : AV → Prop} : onO (fieldAddrS Try.prog 24 1 (.at (.pa κ ver sz i off))) K = evK (todo (off + 1)) (fun o => K (.at (.pa κ ver sz i o))) := fa_pa (fd := ⟨"H", 3, 1, false, "", "", 8⟩) Try.underlying24 rfl sz_int
theorem fb_implLand_1 {κ ver off : Nat} {K : AV → Prop} : onO (fieldAddrS Try.prog 24 1 (.at (.bx κ ver off))) K = evK (todo (off + 1)) (fun o => K (.at (.bx κ ver o))) := fa_bx (fd := ⟨"H", 3, 1, false, "", "", 8⟩) Try.underlying24 rfl sz_int
theorem fg_implLand_1 {cs : List A} {K : AV → Prop} : onR (fieldS Try.prog 24 1 (.ag cs)) K = onO (todo cs[1]?) fun a => K (.at a) := field_1K (fd := ⟨"H", 3, 1, false, "", "", 8⟩) Try.underlying24 rfl agg_int
attribute [go_sem] fp_implLand_1 fo_implLand_1 fb_implLand_1 fg_implLand_1
theorem fp_implLand_2 {cs : List Value} {K : AV → Prop} : onO (fieldAddrS Try.prog 24 2 (.at (.pi cs))) K = evK (todo (cs.drop 2)) (fun c => K (.at (.pi c))) := fa_pi (fd := ⟨"Cells", 22, 2, false, "", "", 16⟩) Try.underlying24 rfl sz_intS
theorem fo_implLand_2 {κ ver sz i off : Nat} {K : AV → Prop} : onO (fieldAddrS Try.prog 24 2 (.at (.pa κ ver sz i off))) K = evK (todo (off + 2)) (fun o => K (.at (.pa κ ver sz i o))) := fa_pa (fd := ⟨"Cells", 22, 2, false, "", "", 16⟩) Try.underlying24 rfl sz_intS
theorem fb_implLand_2 {κ ver off : Nat} {K : AV → Prop} : onO (fieldAddrS Try.prog 24 2 (.at (.bx κ ver off))) K = evK (todo (off + 2)) (fun o => K (.at (.bx κ ver o))) := fa_bx (fd := ⟨"Cells", 22, 2, false, "", "", 16⟩) Try.underlying24 rfl sz_intS
theorem fg_implLand_2 {cs : List A} {K : AV → Prop} : onR (fieldS Try.prog 24 2 (.ag cs)) K = onO (todo cs[2]?) fun a => K (.at a) := field_1K (fd := ⟨"Cells", 22, 2, false, "", "", 16⟩) Try.underlying24 rfl agg_intS
attribute [go_sem] fp_implLand_2 fo_implLand_2 fb_implLand_2 fg_implLand_2
theorem lb_implLand {m : Mem} {κ ver off : Nat} {K : AV → Prop} : onR (loadS Try.prog 24 m (.at (.bx κ ver off))) K = boxAt (todo (m κ)) ver fun cells => off + 3 ≤ cells.length ∧ evK (todo ((cells.drop off).take 3)) fun cs => K (.ag cs) := load_bxKN agg_implLand sz_implLand
theorem sb_implLand {m : Mem} {κ ver off : Nat} {X : AV} {K : Mem → Prop} : onR (storeS Try.prog 24 m (.at (.bx κ ver off)) X) K = boxAt (todo (m κ)) ver fun cells => onO (todo (atomsOf X)) fun new => new.length = 3 ∧ off + 3 ≤ cells.length ∧ evK (todo (splice cells off new)) fun cs => K (upd m κ (.box ver cs)) := store_bxK sz_implLand
theorem sp_implLand {m : Mem} {κ ver sz j off : Nat} {X : AV} {K : Mem → Prop} : onR (storeS Try.prog 24 m (.at (.pa κ ver sz j off)) X) K = arrAt (todo (m κ)) ver sz fun rows => onO (todo ((atomsOf X).bind valsOf)) fun us => us.length = 3 ∧ (j < rows.length ∧ off + 3 ≤ sz) ∧ evK (todo (rows.set j (splice (rows.getD j []) off us))) fun rs => K (upd m κ (.arr ver sz rs)) := store_paK sz_implLand
attribute [go_sem] lb_implLand sb_implLand sp_implLand
end Go.Abs
