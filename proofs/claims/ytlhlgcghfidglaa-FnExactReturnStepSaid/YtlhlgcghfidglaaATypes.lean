/- Facts about the types of the program that is given, each by computing. -/
import Derived.Test.YtlhlgcghfidglaaALibC
import Derived.Test.YtlhlgcghfidglaaProg
namespace Go.Abs
open Go.RowKit Go.Proofs
set_option linter.unusedVariables false
set_option linter.unusedSimpArgs false
set_option maxRecDepth 100000
theorem mixed : Try.prog.follows .mixedOrders = true := by kernel_rfl
theorem agg_int : aggT Try.prog 3 = some false := by kernel_rfl
theorem sz_int : szT Try.prog 3 = some 1 := by kernel_rfl
theorem by_int : (Try.prog.info? 3).map (·.bytes) = some 8 := by kernel_rfl
theorem zv_int : zeroVals Try.prog 3 = some [.int .i64 0] := by kernel_rfl
theorem za_int : zeroAtoms Try.prog 3 = some [.v (.int .i64 0)] := by kernel_rfl
attribute [go_sem] za_int sz_int
theorem ld_int {m : Mem} {cs : List Value} {K : AV → Prop} : onR (loadS Try.prog 3 m (.at (.pi cs))) K = (0 < cs.length ∧ evK (todo (cs.getD 0 undef)) fun u => K (.at (.v u))) := load_pi1 agg_int
theorem lp_int {κ ver sz j off : Nat} {m : Mem} {K : AV → Prop} : loadK Try.prog 3 m (.at (.pa κ ver sz j off)) K = (off < sz ∧ rowAt (todo (m κ)) ver sz j fun r => evK (todo (r.getD off undef)) fun u => K (.at (.v u))) := loadK_paA agg_int sz_int
attribute [go_sem] ld_int lp_int
theorem lb_int {m : Mem} {κ ver off : Nat} {K : AV → Prop} : onR (loadS Try.prog 3 m (.at (.bx κ ver off))) K = boxAt (todo (m κ)) ver fun cells => onO (todo cells[off]?) fun a => K (.at a) := load_bxK1 agg_int
theorem sb_int {m : Mem} {κ ver off : Nat} {X : AV} {K : Mem → Prop} : onR (storeS Try.prog 3 m (.at (.bx κ ver off)) X) K = boxAt (todo (m κ)) ver fun cells => onO (todo (atomsOf X)) fun new => new.length = 1 ∧ off + 1 ≤ cells.length ∧ evK (todo (splice cells off new)) fun cs => K (upd m κ (.box ver cs)) := store_bxK sz_int
theorem sp_int {m : Mem} {κ ver sz j off : Nat} {X : AV} {K : Mem → Prop} : onR (storeS Try.prog 3 m (.at (.pa κ ver sz j off)) X) K = arrAt (todo (m κ)) ver sz fun rows => onO (todo ((atomsOf X).bind valsOf)) fun us => us.length = 1 ∧ (j < rows.length ∧ off + 1 ≤ sz) ∧ evK (todo (rows.set j (splice (rows.getD j []) off us))) fun rs => K (upd m κ (.arr ver sz rs)) := store_paK sz_int
attribute [go_sem] lb_int sb_int sp_int
theorem agg_bool : aggT Try.prog 4 = some false := by kernel_rfl
theorem sz_bool : szT Try.prog 4 = some 1 := by kernel_rfl
theorem by_bool : (Try.prog.info? 4).map (·.bytes) = some 1 := by kernel_rfl
theorem zv_bool : zeroVals Try.prog 4 = some [.bool false] := by kernel_rfl
theorem za_bool : zeroAtoms Try.prog 4 = some [.v (.bool false)] := by kernel_rfl
attribute [go_sem] za_bool sz_bool
theorem ld_bool {m : Mem} {cs : List Value} {K : AV → Prop} : onR (loadS Try.prog 4 m (.at (.pi cs))) K = (0 < cs.length ∧ evK (todo (cs.getD 0 undef)) fun u => K (.at (.v u))) := load_pi1 agg_bool
theorem lp_bool {κ ver sz j off : Nat} {m : Mem} {K : AV → Prop} : loadK Try.prog 4 m (.at (.pa κ ver sz j off)) K = (off < sz ∧ rowAt (todo (m κ)) ver sz j fun r => evK (todo (r.getD off undef)) fun u => K (.at (.v u))) := loadK_paA agg_bool sz_bool
attribute [go_sem] ld_bool lp_bool
theorem lb_bool {m : Mem} {κ ver off : Nat} {K : AV → Prop} : onR (loadS Try.prog 4 m (.at (.bx κ ver off))) K = boxAt (todo (m κ)) ver fun cells => onO (todo cells[off]?) fun a => K (.at a) := load_bxK1 agg_bool
theorem sb_bool {m : Mem} {κ ver off : Nat} {X : AV} {K : Mem → Prop} : onR (storeS Try.prog 4 m (.at (.bx κ ver off)) X) K = boxAt (todo (m κ)) ver fun cells => onO (todo (atomsOf X)) fun new => new.length = 1 ∧ off + 1 ≤ cells.length ∧ evK (todo (splice cells off new)) fun cs => K (upd m κ (.box ver cs)) := store_bxK sz_bool
theorem sp_bool {m : Mem} {κ ver sz j off : Nat} {X : AV} {K : Mem → Prop} : onR (storeS Try.prog 4 m (.at (.pa κ ver sz j off)) X) K = arrAt (todo (m κ)) ver sz fun rows => onO (todo ((atomsOf X).bind valsOf)) fun us => us.length = 1 ∧ (j < rows.length ∧ off + 1 ≤ sz) ∧ evK (todo (rows.set j (splice (rows.getD j []) off us))) fun rs => K (upd m κ (.arr ver sz rs)) := store_paK sz_bool
attribute [go_sem] lb_bool sb_bool sp_bool
theorem und_bool : Try.prog.underlying 4 = some .bool := Try.underlying4
theorem beql {p q : Bool} {K : Value → Prop} : onR (binS Try.prog .eql 4 (.at (.v (.bool p))) (.at (.v (.bool q)))) K = K (.bool (p == q)) := bin_beql und_bool
theorem bneq {p q : Bool} {K : Value → Prop} : onR (binS Try.prog .neq 4 (.at (.v (.bool p))) (.at (.v (.bool q)))) K = K (.bool (!(p == q))) := bin_bneq und_bool
attribute [go_sem] beql bneq
theorem agg_string : aggT Try.prog 9 = some false := by kernel_rfl
theorem sz_string : szT Try.prog 9 = some 1 := by kernel_rfl
theorem by_string : (Try.prog.info? 9).map (·.bytes) = some 16 := by kernel_rfl
theorem zv_string : zeroVals Try.prog 9 = some [.string ByteArray.empty] := by kernel_rfl
theorem za_string : zeroAtoms Try.prog 9 = some [.v (.string ByteArray.empty)] := by kernel_rfl
attribute [go_sem] za_string sz_string
theorem ld_string {m : Mem} {cs : List Value} {K : AV → Prop} : onR (loadS Try.prog 9 m (.at (.pi cs))) K = (0 < cs.length ∧ evK (todo (cs.getD 0 undef)) fun u => K (.at (.v u))) := load_pi1 agg_string
theorem lp_string {κ ver sz j off : Nat} {m : Mem} {K : AV → Prop} : loadK Try.prog 9 m (.at (.pa κ ver sz j off)) K = (off < sz ∧ rowAt (todo (m κ)) ver sz j fun r => evK (todo (r.getD off undef)) fun u => K (.at (.v u))) := loadK_paA agg_string sz_string
attribute [go_sem] ld_string lp_string
theorem lb_string {m : Mem} {κ ver off : Nat} {K : AV → Prop} : onR (loadS Try.prog 9 m (.at (.bx κ ver off))) K = boxAt (todo (m κ)) ver fun cells => onO (todo cells[off]?) fun a => K (.at a) := load_bxK1 agg_string
theorem sb_string {m : Mem} {κ ver off : Nat} {X : AV} {K : Mem → Prop} : onR (storeS Try.prog 9 m (.at (.bx κ ver off)) X) K = boxAt (todo (m κ)) ver fun cells => onO (todo (atomsOf X)) fun new => new.length = 1 ∧ off + 1 ≤ cells.length ∧ evK (todo (splice cells off new)) fun cs => K (upd m κ (.box ver cs)) := store_bxK sz_string
theorem sp_string {m : Mem} {κ ver sz j off : Nat} {X : AV} {K : Mem → Prop} : onR (storeS Try.prog 9 m (.at (.pa κ ver sz j off)) X) K = arrAt (todo (m κ)) ver sz fun rows => onO (todo ((atomsOf X).bind valsOf)) fun us => us.length = 1 ∧ (j < rows.length ∧ off + 1 ≤ sz) ∧ evK (todo (rows.set j (splice (rows.getD j []) off us))) fun rs => K (upd m κ (.arr ver sz rs)) := store_paK sz_string
attribute [go_sem] lb_string sb_string sp_string
theorem und_intS : Try.prog.underlying 22 = some (.slice 3) := Try.underlying22
theorem agg_intS : aggT Try.prog 22 = some false := by kernel_rfl
theorem sz_intS : szT Try.prog 22 = some 1 := by kernel_rfl
theorem ix_intS {rows : List (List Value)} {k : IntKind} {i : Int} {K : AV → Prop} : onR (indexAddrS Try.prog 22 (.at (.im 1 rows)) (.at (.v (.int k i)))) K = ((0 ≤ i ∧ i < (rows.length : Int)) ∧ ∀ r, rows[i.toNat]? = some r → K (.at (.pi r))) := idx_im und_intS sz_int
theorem io_intS {κ ver n : Nat} {k : IntKind} {i : Int} {K : AV → Prop} : onR (indexAddrS Try.prog 22 (.at (.ow κ ver 1 n)) (.at (.v (.int k i)))) K = ((0 ≤ i ∧ i < (n : Int)) ∧ evK (todo i.toNat) fun j => K (.at (.pa κ ver 1 j 0))) := idx_ow und_intS sz_int
theorem ln_intS {sz : Nat} {rows : List (List Value)} {K : Value → Prop} : onO (lenS Try.prog 22 (.at (.im sz rows))) K = K (.int .i64 rows.length) := len_im und_intS
theorem lo_intS {κ ver sz n : Nat} {K : Value → Prop} : onO (lenS Try.prog 22 (.at (.ow κ ver sz n))) K = K (.int .i64 n) := len_ow und_intS
theorem lz_intS {K : Value → Prop} : onO (lenS Try.prog 22 (.at .nil)) K = K (.int .i64 0) := len_nil und_intS
theorem si_intS : siOf Try.prog 22 = some ⟨3, 1, 8, [.int .i64 0]⟩ := by kernel_rfl
theorem ci_intS {nx : Nat} {q : Bool} {t : Nat → AV} {m : Mem} {rows : List (List Value)} {lo hi : Option Operand} {K : AV → Mem → Prop} : onM (sliceS Try.prog nx q 22 ⟨t, m⟩ (.at (.im 1 rows)) lo hi none) K = onO (todo (boundS ⟨t, m⟩ lo 0)) fun l => onO (todo (boundS ⟨t, m⟩ hi rows.length)) fun h => (0 ≤ l ∧ l ≤ h ∧ h ≤ (rows.length : Int)) ∧ evK (todo ((rows.drop l.toNat).take (h.toNat - l.toNat))) fun rs => K (.at (.im 1 rs)) m := cut_im_k und_intS sz_int
theorem cn_intS {nx : Nat} {q : Bool} {t : Nat → AV} {m : Mem} {lo hi : Option Operand} {K : AV → Mem → Prop} : onM (sliceS Try.prog nx q 22 ⟨t, m⟩ (.at .nil) lo hi none) K = onO (todo (boundS ⟨t, m⟩ lo 0)) fun l => onO (todo (boundS ⟨t, m⟩ hi 0)) fun h => (l = 0 ∧ h = 0) ∧ K (.at .nil) m := cut_nil_k und_intS sz_int
attribute [go_sem] ix_intS io_intS ln_intS lo_intS lz_intS si_intS ci_intS cn_intS
attribute [go_sem] sz_intS
theorem lb_intS {m : Mem} {κ ver off : Nat} {K : AV → Prop} : onR (loadS Try.prog 22 m (.at (.bx κ ver off))) K = boxAt (todo (m κ)) ver fun cells => onO (todo cells[off]?) fun a => K (.at a) := load_bxK1 agg_intS
theorem sb_intS {m : Mem} {κ ver off : Nat} {X : AV} {K : Mem → Prop} : onR (storeS Try.prog 22 m (.at (.bx κ ver off)) X) K = boxAt (todo (m κ)) ver fun cells => onO (todo (atomsOf X)) fun new => new.length = 1 ∧ off + 1 ≤ cells.length ∧ evK (todo (splice cells off new)) fun cs => K (upd m κ (.box ver cs)) := store_bxK sz_intS
theorem sp_intS {m : Mem} {κ ver sz j off : Nat} {X : AV} {K : Mem → Prop} : onR (storeS Try.prog 22 m (.at (.pa κ ver sz j off)) X) K = arrAt (todo (m κ)) ver sz fun rows => onO (todo ((atomsOf X).bind valsOf)) fun us => us.length = 1 ∧ (j < rows.length ∧ off + 1 ≤ sz) ∧ evK (todo (rows.set j (splice (rows.getD j []) off us))) fun rs => K (upd m κ (.arr ver sz rs)) := store_paK sz_intS
attribute [go_sem] lb_intS sb_intS sp_intS
theorem und_boolS : Try.prog.underlying 29 = some (.slice 4) := Try.underlying29
theorem agg_boolS : aggT Try.prog 29 = some false := by kernel_rfl
theorem sz_boolS : szT Try.prog 29 = some 1 := by kernel_rfl
theorem ix_boolS {rows : List (List Value)} {k : IntKind} {i : Int} {K : AV → Prop} : onR (indexAddrS Try.prog 29 (.at (.im 1 rows)) (.at (.v (.int k i)))) K = ((0 ≤ i ∧ i < (rows.length : Int)) ∧ ∀ r, rows[i.toNat]? = some r → K (.at (.pi r))) := idx_im und_boolS sz_bool
theorem io_boolS {κ ver n : Nat} {k : IntKind} {i : Int} {K : AV → Prop} : onR (indexAddrS Try.prog 29 (.at (.ow κ ver 1 n)) (.at (.v (.int k i)))) K = ((0 ≤ i ∧ i < (n : Int)) ∧ evK (todo i.toNat) fun j => K (.at (.pa κ ver 1 j 0))) := idx_ow und_boolS sz_bool
theorem ln_boolS {sz : Nat} {rows : List (List Value)} {K : Value → Prop} : onO (lenS Try.prog 29 (.at (.im sz rows))) K = K (.int .i64 rows.length) := len_im und_boolS
theorem lo_boolS {κ ver sz n : Nat} {K : Value → Prop} : onO (lenS Try.prog 29 (.at (.ow κ ver sz n))) K = K (.int .i64 n) := len_ow und_boolS
theorem lz_boolS {K : Value → Prop} : onO (lenS Try.prog 29 (.at .nil)) K = K (.int .i64 0) := len_nil und_boolS
theorem si_boolS : siOf Try.prog 29 = some ⟨4, 1, 1, [.bool false]⟩ := by kernel_rfl
theorem ci_boolS {nx : Nat} {q : Bool} {t : Nat → AV} {m : Mem} {rows : List (List Value)} {lo hi : Option Operand} {K : AV → Mem → Prop} : onM (sliceS Try.prog nx q 29 ⟨t, m⟩ (.at (.im 1 rows)) lo hi none) K = onO (todo (boundS ⟨t, m⟩ lo 0)) fun l => onO (todo (boundS ⟨t, m⟩ hi rows.length)) fun h => (0 ≤ l ∧ l ≤ h ∧ h ≤ (rows.length : Int)) ∧ evK (todo ((rows.drop l.toNat).take (h.toNat - l.toNat))) fun rs => K (.at (.im 1 rs)) m := cut_im_k und_boolS sz_bool
theorem cn_boolS {nx : Nat} {q : Bool} {t : Nat → AV} {m : Mem} {lo hi : Option Operand} {K : AV → Mem → Prop} : onM (sliceS Try.prog nx q 29 ⟨t, m⟩ (.at .nil) lo hi none) K = onO (todo (boundS ⟨t, m⟩ lo 0)) fun l => onO (todo (boundS ⟨t, m⟩ hi 0)) fun h => (l = 0 ∧ h = 0) ∧ K (.at .nil) m := cut_nil_k und_boolS sz_bool
attribute [go_sem] ix_boolS io_boolS ln_boolS lo_boolS lz_boolS si_boolS ci_boolS cn_boolS
attribute [go_sem] sz_boolS
theorem lb_boolS {m : Mem} {κ ver off : Nat} {K : AV → Prop} : onR (loadS Try.prog 29 m (.at (.bx κ ver off))) K = boxAt (todo (m κ)) ver fun cells => onO (todo cells[off]?) fun a => K (.at a) := load_bxK1 agg_boolS
theorem sb_boolS {m : Mem} {κ ver off : Nat} {X : AV} {K : Mem → Prop} : onR (storeS Try.prog 29 m (.at (.bx κ ver off)) X) K = boxAt (todo (m κ)) ver fun cells => onO (todo (atomsOf X)) fun new => new.length = 1 ∧ off + 1 ≤ cells.length ∧ evK (todo (splice cells off new)) fun cs => K (upd m κ (.box ver cs)) := store_bxK sz_boolS
theorem sp_boolS {m : Mem} {κ ver sz j off : Nat} {X : AV} {K : Mem → Prop} : onR (storeS Try.prog 29 m (.at (.pa κ ver sz j off)) X) K = arrAt (todo (m κ)) ver sz fun rows => onO (todo ((atomsOf X).bind valsOf)) fun us => us.length = 1 ∧ (j < rows.length ∧ off + 1 ≤ sz) ∧ evK (todo (rows.set j (splice (rows.getD j []) off us))) fun rs => K (upd m κ (.arr ver sz rs)) := store_paK sz_boolS
attribute [go_sem] lb_boolS sb_boolS sp_boolS
theorem agg_implLand : aggT Try.prog 41 = some true := by kernel_rfl
theorem sz_implLand : szT Try.prog 41 = some 3 := by kernel_rfl
theorem by_implLand : (Try.prog.info? 41).map (·.bytes) = some 40 := by kernel_rfl
theorem zv_implLand : zeroVals Try.prog 41 = some [.int .i64 0, .int .i64 0, .slice none 0 0] := by kernel_rfl
theorem za_implLand : zeroAtoms Try.prog 41 = some [.v (.int .i64 0), .v (.int .i64 0), .nil] := by kernel_rfl
attribute [go_sem] za_implLand sz_implLand
theorem ld_implLand {m : Mem} {cs : List Value} {K : AV → Prop} : onR (loadS Try.prog 41 m (.at (.pi cs))) K = (3 ≤ cs.length ∧ evK (todo ((cs.take 3).map A.v)) fun cs => K (.ag cs)) := load_piN agg_implLand sz_implLand
theorem ti_implLand : tiOf Try.prog 41 = some ⟨[⟨"W", 3, 0, false, "", "", 0⟩, ⟨"H", 3, 1, false, "", "", 8⟩, ⟨"Cells", 22, 2, false, "", "", 16⟩], [.v (.int .i64 0), .v (.int .i64 0), .nil]⟩ := by kernel_rfl
theorem lp_implLand {κ ver sz j off : Nat} {m : Mem} {K : AV → Prop} : loadK Try.prog 41 m (.at (.pa κ ver sz j off)) K = (off + 3 ≤ sz ∧ rowAt (todo (m κ)) ver sz j fun r => evK (todo (((r.drop off).take 3).map A.v)) fun cs => K (.ag cs)) := loadK_paB agg_implLand sz_implLand
attribute [go_sem] ld_implLand ti_implLand lp_implLand
theorem fp_implLand_0 {cs : List Value} {K : AV → Prop} : onO (fieldAddrS Try.prog 41 0 (.at (.pi cs))) K = evK (todo (cs.drop 0)) (fun c => K (.at (.pi c))) := fa_pi (fd := ⟨"W", 3, 0, false, "", "", 0⟩) Try.underlying41 rfl sz_int
theorem fo_implLand_0 {κ ver sz i off : Nat} {K : AV → Prop} : onO (fieldAddrS Try.prog 41 0 (.at (.pa κ ver sz i off))) K = evK (todo (off + 0)) (fun o => K (.at (.pa κ ver sz i o))) := fa_pa (fd := ⟨"W", 3, 0, false, "", "", 0⟩) Try.underlying41 rfl sz_int
theorem fb_implLand_0 {κ ver off : Nat} {K : AV → Prop} : onO (fieldAddrS Try.prog 41 0 (.at (.bx κ ver off))) K = evK (todo (off + 0)) (fun o => K (.at (.bx κ ver o))) := fa_bx (fd := ⟨"W", 3, 0, false, "", "", 0⟩) Try.underlying41 rfl sz_int
theorem fg_implLand_0 {cs : List A} {K : AV → Prop} : onR (fieldS Try.prog 41 0 (.ag cs)) K = onO (todo cs[0]?) fun a => K (.at a) := field_1K (fd := ⟨"W", 3, 0, false, "", "", 0⟩) Try.underlying41 rfl agg_int
attribute [go_sem] fp_implLand_0 fo_implLand_0 fb_implLand_0 fg_implLand_0
theorem fp_implLand_1 {cs : List Value} {K : AV → Prop} : onO (fieldAddrS Try.prog 41 1 (.at (.pi cs))) K = evK (todo (cs.drop 1)) (fun c => K (.at (.pi c))) := fa_pi (fd := ⟨"H", 3, 1, false, "", "", 8⟩) Try.underlying41 rfl sz_int
theorem fo_implLand_1 {κ ver sz i off : Nat} {K : AV → Prop} : onO (fieldAddrS Try.prog 41 1 (.at (.pa κ ver sz i off))) K = evK (todo (off + 1)) (fun o => K (.at (.pa κ ver sz i o))) := fa_pa (fd := ⟨"H", 3, 1, false, "", "", 8⟩) Try.underlying41 rfl sz_int
theorem fb_implLand_1 {κ ver off : Nat} {K : AV → Prop} : onO (fieldAddrS Try.prog 41 1 (.at (.bx κ ver off))) K = evK (todo (off + 1)) (fun o => K (.at (.bx κ ver o))) := fa_bx (fd := ⟨"H", 3, 1, false, "", "", 8⟩) Try.underlying41 rfl sz_int
theorem fg_implLand_1 {cs : List A} {K : AV → Prop} : onR (fieldS Try.prog 41 1 (.ag cs)) K = onO (todo cs[1]?) fun a => K (.at a) := field_1K (fd := ⟨"H", 3, 1, false, "", "", 8⟩) Try.underlying41 rfl agg_int
attribute [go_sem] fp_implLand_1 fo_implLand_1 fb_implLand_1 fg_implLand_1
theorem fp_implLand_2 {cs : List Value} {K : AV → Prop} : onO (fieldAddrS Try.prog 41 2 (.at (.pi cs))) K = evK (todo (cs.drop 2)) (fun c => K (.at (.pi c))) := fa_pi (fd := ⟨"Cells", 22, 2, false, "", "", 16⟩) Try.underlying41 rfl sz_intS
theorem fo_implLand_2 {κ ver sz i off : Nat} {K : AV → Prop} : onO (fieldAddrS Try.prog 41 2 (.at (.pa κ ver sz i off))) K = evK (todo (off + 2)) (fun o => K (.at (.pa κ ver sz i o))) := fa_pa (fd := ⟨"Cells", 22, 2, false, "", "", 16⟩) Try.underlying41 rfl sz_intS
theorem fb_implLand_2 {κ ver off : Nat} {K : AV → Prop} : onO (fieldAddrS Try.prog 41 2 (.at (.bx κ ver off))) K = evK (todo (off + 2)) (fun o => K (.at (.bx κ ver o))) := fa_bx (fd := ⟨"Cells", 22, 2, false, "", "", 16⟩) Try.underlying41 rfl sz_intS
theorem fg_implLand_2 {cs : List A} {K : AV → Prop} : onR (fieldS Try.prog 41 2 (.ag cs)) K = onO (todo cs[2]?) fun a => K (.at a) := field_1K (fd := ⟨"Cells", 22, 2, false, "", "", 16⟩) Try.underlying41 rfl agg_intS
attribute [go_sem] fp_implLand_2 fo_implLand_2 fb_implLand_2 fg_implLand_2
theorem lb_implLand {m : Mem} {κ ver off : Nat} {K : AV → Prop} : onR (loadS Try.prog 41 m (.at (.bx κ ver off))) K = boxAt (todo (m κ)) ver fun cells => off + 3 ≤ cells.length ∧ evK (todo ((cells.drop off).take 3)) fun cs => K (.ag cs) := load_bxKN agg_implLand sz_implLand
theorem sb_implLand {m : Mem} {κ ver off : Nat} {X : AV} {K : Mem → Prop} : onR (storeS Try.prog 41 m (.at (.bx κ ver off)) X) K = boxAt (todo (m κ)) ver fun cells => onO (todo (atomsOf X)) fun new => new.length = 3 ∧ off + 3 ≤ cells.length ∧ evK (todo (splice cells off new)) fun cs => K (upd m κ (.box ver cs)) := store_bxK sz_implLand
theorem sp_implLand {m : Mem} {κ ver sz j off : Nat} {X : AV} {K : Mem → Prop} : onR (storeS Try.prog 41 m (.at (.pa κ ver sz j off)) X) K = arrAt (todo (m κ)) ver sz fun rows => onO (todo ((atomsOf X).bind valsOf)) fun us => us.length = 3 ∧ (j < rows.length ∧ off + 3 ≤ sz) ∧ evK (todo (rows.set j (splice (rows.getD j []) off us))) fun rs => K (upd m κ (.arr ver sz rs)) := store_paK sz_implLand
attribute [go_sem] lb_implLand sb_implLand sp_implLand
theorem agg_implRule : aggT Try.prog 43 = some true := by kernel_rfl
theorem sz_implRule : szT Try.prog 43 = some 2 := by kernel_rfl
theorem by_implRule : (Try.prog.info? 43).map (·.bytes) = some 16 := by kernel_rfl
theorem zv_implRule : zeroVals Try.prog 43 = some [.int .i64 0, .int .i64 0] := by kernel_rfl
theorem za_implRule : zeroAtoms Try.prog 43 = some [.v (.int .i64 0), .v (.int .i64 0)] := by kernel_rfl
attribute [go_sem] za_implRule sz_implRule
theorem ld_implRule {m : Mem} {cs : List Value} {K : AV → Prop} : onR (loadS Try.prog 43 m (.at (.pi cs))) K = (2 ≤ cs.length ∧ evK (todo ((cs.take 2).map A.v)) fun cs => K (.ag cs)) := load_piN agg_implRule sz_implRule
theorem ti_implRule : tiOf Try.prog 43 = some ⟨[⟨"Most", 3, 0, false, "", "", 0⟩, ⟨"Window", 3, 1, false, "", "", 8⟩], [.v (.int .i64 0), .v (.int .i64 0)]⟩ := by kernel_rfl
theorem lp_implRule {κ ver sz j off : Nat} {m : Mem} {K : AV → Prop} : loadK Try.prog 43 m (.at (.pa κ ver sz j off)) K = (off + 2 ≤ sz ∧ rowAt (todo (m κ)) ver sz j fun r => evK (todo (((r.drop off).take 2).map A.v)) fun cs => K (.ag cs)) := loadK_paB agg_implRule sz_implRule
attribute [go_sem] ld_implRule ti_implRule lp_implRule
theorem fp_implRule_0 {cs : List Value} {K : AV → Prop} : onO (fieldAddrS Try.prog 43 0 (.at (.pi cs))) K = evK (todo (cs.drop 0)) (fun c => K (.at (.pi c))) := fa_pi (fd := ⟨"Most", 3, 0, false, "", "", 0⟩) Try.underlying43 rfl sz_int
theorem fo_implRule_0 {κ ver sz i off : Nat} {K : AV → Prop} : onO (fieldAddrS Try.prog 43 0 (.at (.pa κ ver sz i off))) K = evK (todo (off + 0)) (fun o => K (.at (.pa κ ver sz i o))) := fa_pa (fd := ⟨"Most", 3, 0, false, "", "", 0⟩) Try.underlying43 rfl sz_int
theorem fb_implRule_0 {κ ver off : Nat} {K : AV → Prop} : onO (fieldAddrS Try.prog 43 0 (.at (.bx κ ver off))) K = evK (todo (off + 0)) (fun o => K (.at (.bx κ ver o))) := fa_bx (fd := ⟨"Most", 3, 0, false, "", "", 0⟩) Try.underlying43 rfl sz_int
theorem fg_implRule_0 {cs : List A} {K : AV → Prop} : onR (fieldS Try.prog 43 0 (.ag cs)) K = onO (todo cs[0]?) fun a => K (.at a) := field_1K (fd := ⟨"Most", 3, 0, false, "", "", 0⟩) Try.underlying43 rfl agg_int
attribute [go_sem] fp_implRule_0 fo_implRule_0 fb_implRule_0 fg_implRule_0
theorem fp_implRule_1 {cs : List Value} {K : AV → Prop} : onO (fieldAddrS Try.prog 43 1 (.at (.pi cs))) K = evK (todo (cs.drop 1)) (fun c => K (.at (.pi c))) := fa_pi (fd := ⟨"Window", 3, 1, false, "", "", 8⟩) Try.underlying43 rfl sz_int
theorem fo_implRule_1 {κ ver sz i off : Nat} {K : AV → Prop} : onO (fieldAddrS Try.prog 43 1 (.at (.pa κ ver sz i off))) K = evK (todo (off + 1)) (fun o => K (.at (.pa κ ver sz i o))) := fa_pa (fd := ⟨"Window", 3, 1, false, "", "", 8⟩) Try.underlying43 rfl sz_int
theorem fb_implRule_1 {κ ver off : Nat} {K : AV → Prop} : onO (fieldAddrS Try.prog 43 1 (.at (.bx κ ver off))) K = evK (todo (off + 1)) (fun o => K (.at (.bx κ ver o))) := fa_bx (fd := ⟨"Window", 3, 1, false, "", "", 8⟩) Try.underlying43 rfl sz_int
theorem fg_implRule_1 {cs : List A} {K : AV → Prop} : onR (fieldS Try.prog 43 1 (.ag cs)) K = onO (todo cs[1]?) fun a => K (.at a) := field_1K (fd := ⟨"Window", 3, 1, false, "", "", 8⟩) Try.underlying43 rfl agg_int
attribute [go_sem] fp_implRule_1 fo_implRule_1 fb_implRule_1 fg_implRule_1
theorem lb_implRule {m : Mem} {κ ver off : Nat} {K : AV → Prop} : onR (loadS Try.prog 43 m (.at (.bx κ ver off))) K = boxAt (todo (m κ)) ver fun cells => off + 2 ≤ cells.length ∧ evK (todo ((cells.drop off).take 2)) fun cs => K (.ag cs) := load_bxKN agg_implRule sz_implRule
theorem sb_implRule {m : Mem} {κ ver off : Nat} {X : AV} {K : Mem → Prop} : onR (storeS Try.prog 43 m (.at (.bx κ ver off)) X) K = boxAt (todo (m κ)) ver fun cells => onO (todo (atomsOf X)) fun new => new.length = 2 ∧ off + 2 ≤ cells.length ∧ evK (todo (splice cells off new)) fun cs => K (upd m κ (.box ver cs)) := store_bxK sz_implRule
theorem sp_implRule {m : Mem} {κ ver sz j off : Nat} {X : AV} {K : Mem → Prop} : onR (storeS Try.prog 43 m (.at (.pa κ ver sz j off)) X) K = arrAt (todo (m κ)) ver sz fun rows => onO (todo ((atomsOf X).bind valsOf)) fun us => us.length = 2 ∧ (j < rows.length ∧ off + 2 ≤ sz) ∧ evK (todo (rows.set j (splice (rows.getD j []) off us))) fun rs => K (upd m κ (.arr ver sz rs)) := store_paK sz_implRule
attribute [go_sem] lb_implRule sb_implRule sp_implRule
theorem agg_implMember : aggT Try.prog 93 = some true := by kernel_rfl
theorem sz_implMember : szT Try.prog 93 = some 4 := by kernel_rfl
theorem by_implMember : (Try.prog.info? 93).map (·.bytes) = some 32 := by kernel_rfl
theorem zv_implMember : zeroVals Try.prog 93 = some [.int .i64 0, .int .i64 0, .int .i64 0, .bool false] := by kernel_rfl
theorem za_implMember : zeroAtoms Try.prog 93 = some [.v (.int .i64 0), .v (.int .i64 0), .v (.int .i64 0), .v (.bool false)] := by kernel_rfl
attribute [go_sem] za_implMember sz_implMember
theorem ld_implMember {m : Mem} {cs : List Value} {K : AV → Prop} : onR (loadS Try.prog 93 m (.at (.pi cs))) K = (4 ≤ cs.length ∧ evK (todo ((cs.take 4).map A.v)) fun cs => K (.ag cs)) := load_piN agg_implMember sz_implMember
theorem ti_implMember : tiOf Try.prog 93 = some ⟨[⟨"Id", 3, 0, false, "", "", 0⟩, ⟨"Strength", 3, 1, false, "", "", 8⟩, ⟨"Need", 3, 2, false, "", "", 16⟩, ⟨"Ill", 4, 3, false, "", "", 24⟩], [.v (.int .i64 0), .v (.int .i64 0), .v (.int .i64 0), .v (.bool false)]⟩ := by kernel_rfl
theorem lp_implMember {κ ver sz j off : Nat} {m : Mem} {K : AV → Prop} : loadK Try.prog 93 m (.at (.pa κ ver sz j off)) K = (off + 4 ≤ sz ∧ rowAt (todo (m κ)) ver sz j fun r => evK (todo (((r.drop off).take 4).map A.v)) fun cs => K (.ag cs)) := loadK_paB agg_implMember sz_implMember
attribute [go_sem] ld_implMember ti_implMember lp_implMember
theorem fp_implMember_0 {cs : List Value} {K : AV → Prop} : onO (fieldAddrS Try.prog 93 0 (.at (.pi cs))) K = evK (todo (cs.drop 0)) (fun c => K (.at (.pi c))) := fa_pi (fd := ⟨"Id", 3, 0, false, "", "", 0⟩) Try.underlying93 rfl sz_int
theorem fo_implMember_0 {κ ver sz i off : Nat} {K : AV → Prop} : onO (fieldAddrS Try.prog 93 0 (.at (.pa κ ver sz i off))) K = evK (todo (off + 0)) (fun o => K (.at (.pa κ ver sz i o))) := fa_pa (fd := ⟨"Id", 3, 0, false, "", "", 0⟩) Try.underlying93 rfl sz_int
theorem fb_implMember_0 {κ ver off : Nat} {K : AV → Prop} : onO (fieldAddrS Try.prog 93 0 (.at (.bx κ ver off))) K = evK (todo (off + 0)) (fun o => K (.at (.bx κ ver o))) := fa_bx (fd := ⟨"Id", 3, 0, false, "", "", 0⟩) Try.underlying93 rfl sz_int
theorem fg_implMember_0 {cs : List A} {K : AV → Prop} : onR (fieldS Try.prog 93 0 (.ag cs)) K = onO (todo cs[0]?) fun a => K (.at a) := field_1K (fd := ⟨"Id", 3, 0, false, "", "", 0⟩) Try.underlying93 rfl agg_int
attribute [go_sem] fp_implMember_0 fo_implMember_0 fb_implMember_0 fg_implMember_0
theorem fp_implMember_1 {cs : List Value} {K : AV → Prop} : onO (fieldAddrS Try.prog 93 1 (.at (.pi cs))) K = evK (todo (cs.drop 1)) (fun c => K (.at (.pi c))) := fa_pi (fd := ⟨"Strength", 3, 1, false, "", "", 8⟩) Try.underlying93 rfl sz_int
theorem fo_implMember_1 {κ ver sz i off : Nat} {K : AV → Prop} : onO (fieldAddrS Try.prog 93 1 (.at (.pa κ ver sz i off))) K = evK (todo (off + 1)) (fun o => K (.at (.pa κ ver sz i o))) := fa_pa (fd := ⟨"Strength", 3, 1, false, "", "", 8⟩) Try.underlying93 rfl sz_int
theorem fb_implMember_1 {κ ver off : Nat} {K : AV → Prop} : onO (fieldAddrS Try.prog 93 1 (.at (.bx κ ver off))) K = evK (todo (off + 1)) (fun o => K (.at (.bx κ ver o))) := fa_bx (fd := ⟨"Strength", 3, 1, false, "", "", 8⟩) Try.underlying93 rfl sz_int
theorem fg_implMember_1 {cs : List A} {K : AV → Prop} : onR (fieldS Try.prog 93 1 (.ag cs)) K = onO (todo cs[1]?) fun a => K (.at a) := field_1K (fd := ⟨"Strength", 3, 1, false, "", "", 8⟩) Try.underlying93 rfl agg_int
attribute [go_sem] fp_implMember_1 fo_implMember_1 fb_implMember_1 fg_implMember_1
theorem fp_implMember_2 {cs : List Value} {K : AV → Prop} : onO (fieldAddrS Try.prog 93 2 (.at (.pi cs))) K = evK (todo (cs.drop 2)) (fun c => K (.at (.pi c))) := fa_pi (fd := ⟨"Need", 3, 2, false, "", "", 16⟩) Try.underlying93 rfl sz_int
theorem fo_implMember_2 {κ ver sz i off : Nat} {K : AV → Prop} : onO (fieldAddrS Try.prog 93 2 (.at (.pa κ ver sz i off))) K = evK (todo (off + 2)) (fun o => K (.at (.pa κ ver sz i o))) := fa_pa (fd := ⟨"Need", 3, 2, false, "", "", 16⟩) Try.underlying93 rfl sz_int
theorem fb_implMember_2 {κ ver off : Nat} {K : AV → Prop} : onO (fieldAddrS Try.prog 93 2 (.at (.bx κ ver off))) K = evK (todo (off + 2)) (fun o => K (.at (.bx κ ver o))) := fa_bx (fd := ⟨"Need", 3, 2, false, "", "", 16⟩) Try.underlying93 rfl sz_int
theorem fg_implMember_2 {cs : List A} {K : AV → Prop} : onR (fieldS Try.prog 93 2 (.ag cs)) K = onO (todo cs[2]?) fun a => K (.at a) := field_1K (fd := ⟨"Need", 3, 2, false, "", "", 16⟩) Try.underlying93 rfl agg_int
attribute [go_sem] fp_implMember_2 fo_implMember_2 fb_implMember_2 fg_implMember_2
theorem fp_implMember_3 {cs : List Value} {K : AV → Prop} : onO (fieldAddrS Try.prog 93 3 (.at (.pi cs))) K = evK (todo (cs.drop 3)) (fun c => K (.at (.pi c))) := fa_pi (fd := ⟨"Ill", 4, 3, false, "", "", 24⟩) Try.underlying93 rfl sz_bool
theorem fo_implMember_3 {κ ver sz i off : Nat} {K : AV → Prop} : onO (fieldAddrS Try.prog 93 3 (.at (.pa κ ver sz i off))) K = evK (todo (off + 3)) (fun o => K (.at (.pa κ ver sz i o))) := fa_pa (fd := ⟨"Ill", 4, 3, false, "", "", 24⟩) Try.underlying93 rfl sz_bool
theorem fb_implMember_3 {κ ver off : Nat} {K : AV → Prop} : onO (fieldAddrS Try.prog 93 3 (.at (.bx κ ver off))) K = evK (todo (off + 3)) (fun o => K (.at (.bx κ ver o))) := fa_bx (fd := ⟨"Ill", 4, 3, false, "", "", 24⟩) Try.underlying93 rfl sz_bool
theorem fg_implMember_3 {cs : List A} {K : AV → Prop} : onR (fieldS Try.prog 93 3 (.ag cs)) K = onO (todo cs[3]?) fun a => K (.at a) := field_1K (fd := ⟨"Ill", 4, 3, false, "", "", 24⟩) Try.underlying93 rfl agg_bool
attribute [go_sem] fp_implMember_3 fo_implMember_3 fb_implMember_3 fg_implMember_3
theorem lb_implMember {m : Mem} {κ ver off : Nat} {K : AV → Prop} : onR (loadS Try.prog 93 m (.at (.bx κ ver off))) K = boxAt (todo (m κ)) ver fun cells => off + 4 ≤ cells.length ∧ evK (todo ((cells.drop off).take 4)) fun cs => K (.ag cs) := load_bxKN agg_implMember sz_implMember
theorem sb_implMember {m : Mem} {κ ver off : Nat} {X : AV} {K : Mem → Prop} : onR (storeS Try.prog 93 m (.at (.bx κ ver off)) X) K = boxAt (todo (m κ)) ver fun cells => onO (todo (atomsOf X)) fun new => new.length = 4 ∧ off + 4 ≤ cells.length ∧ evK (todo (splice cells off new)) fun cs => K (upd m κ (.box ver cs)) := store_bxK sz_implMember
theorem sp_implMember {m : Mem} {κ ver sz j off : Nat} {X : AV} {K : Mem → Prop} : onR (storeS Try.prog 93 m (.at (.pa κ ver sz j off)) X) K = arrAt (todo (m κ)) ver sz fun rows => onO (todo ((atomsOf X).bind valsOf)) fun us => us.length = 4 ∧ (j < rows.length ∧ off + 4 ≤ sz) ∧ evK (todo (rows.set j (splice (rows.getD j []) off us))) fun rs => K (upd m κ (.arr ver sz rs)) := store_paK sz_implMember
attribute [go_sem] lb_implMember sb_implMember sp_implMember
theorem und_implMemberS : Try.prog.underlying 35 = some (.slice 93) := Try.underlying35
theorem agg_implMemberS : aggT Try.prog 35 = some false := by kernel_rfl
theorem sz_implMemberS : szT Try.prog 35 = some 1 := by kernel_rfl
theorem ix_implMemberS {rows : List (List Value)} {k : IntKind} {i : Int} {K : AV → Prop} : onR (indexAddrS Try.prog 35 (.at (.im 4 rows)) (.at (.v (.int k i)))) K = ((0 ≤ i ∧ i < (rows.length : Int)) ∧ ∀ r, rows[i.toNat]? = some r → K (.at (.pi r))) := idx_im und_implMemberS sz_implMember
theorem io_implMemberS {κ ver n : Nat} {k : IntKind} {i : Int} {K : AV → Prop} : onR (indexAddrS Try.prog 35 (.at (.ow κ ver 4 n)) (.at (.v (.int k i)))) K = ((0 ≤ i ∧ i < (n : Int)) ∧ evK (todo i.toNat) fun j => K (.at (.pa κ ver 4 j 0))) := idx_ow und_implMemberS sz_implMember
theorem ln_implMemberS {sz : Nat} {rows : List (List Value)} {K : Value → Prop} : onO (lenS Try.prog 35 (.at (.im sz rows))) K = K (.int .i64 rows.length) := len_im und_implMemberS
theorem lo_implMemberS {κ ver sz n : Nat} {K : Value → Prop} : onO (lenS Try.prog 35 (.at (.ow κ ver sz n))) K = K (.int .i64 n) := len_ow und_implMemberS
theorem lz_implMemberS {K : Value → Prop} : onO (lenS Try.prog 35 (.at .nil)) K = K (.int .i64 0) := len_nil und_implMemberS
theorem si_implMemberS : siOf Try.prog 35 = some ⟨93, 4, 32, [.int .i64 0, .int .i64 0, .int .i64 0, .bool false]⟩ := by kernel_rfl
theorem ci_implMemberS {nx : Nat} {q : Bool} {t : Nat → AV} {m : Mem} {rows : List (List Value)} {lo hi : Option Operand} {K : AV → Mem → Prop} : onM (sliceS Try.prog nx q 35 ⟨t, m⟩ (.at (.im 4 rows)) lo hi none) K = onO (todo (boundS ⟨t, m⟩ lo 0)) fun l => onO (todo (boundS ⟨t, m⟩ hi rows.length)) fun h => (0 ≤ l ∧ l ≤ h ∧ h ≤ (rows.length : Int)) ∧ evK (todo ((rows.drop l.toNat).take (h.toNat - l.toNat))) fun rs => K (.at (.im 4 rs)) m := cut_im_k und_implMemberS sz_implMember
theorem cn_implMemberS {nx : Nat} {q : Bool} {t : Nat → AV} {m : Mem} {lo hi : Option Operand} {K : AV → Mem → Prop} : onM (sliceS Try.prog nx q 35 ⟨t, m⟩ (.at .nil) lo hi none) K = onO (todo (boundS ⟨t, m⟩ lo 0)) fun l => onO (todo (boundS ⟨t, m⟩ hi 0)) fun h => (l = 0 ∧ h = 0) ∧ K (.at .nil) m := cut_nil_k und_implMemberS sz_implMember
attribute [go_sem] ix_implMemberS io_implMemberS ln_implMemberS lo_implMemberS lz_implMemberS si_implMemberS ci_implMemberS cn_implMemberS
attribute [go_sem] sz_implMemberS
theorem lb_implMemberS {m : Mem} {κ ver off : Nat} {K : AV → Prop} : onR (loadS Try.prog 35 m (.at (.bx κ ver off))) K = boxAt (todo (m κ)) ver fun cells => onO (todo cells[off]?) fun a => K (.at a) := load_bxK1 agg_implMemberS
theorem sb_implMemberS {m : Mem} {κ ver off : Nat} {X : AV} {K : Mem → Prop} : onR (storeS Try.prog 35 m (.at (.bx κ ver off)) X) K = boxAt (todo (m κ)) ver fun cells => onO (todo (atomsOf X)) fun new => new.length = 1 ∧ off + 1 ≤ cells.length ∧ evK (todo (splice cells off new)) fun cs => K (upd m κ (.box ver cs)) := store_bxK sz_implMemberS
theorem sp_implMemberS {m : Mem} {κ ver sz j off : Nat} {X : AV} {K : Mem → Prop} : onR (storeS Try.prog 35 m (.at (.pa κ ver sz j off)) X) K = arrAt (todo (m κ)) ver sz fun rows => onO (todo ((atomsOf X).bind valsOf)) fun us => us.length = 1 ∧ (j < rows.length ∧ off + 1 ≤ sz) ∧ evK (todo (rows.set j (splice (rows.getD j []) off us))) fun rs => K (upd m κ (.arr ver sz rs)) := store_paK sz_implMemberS
attribute [go_sem] lb_implMemberS sb_implMemberS sp_implMemberS
theorem agg_implDepot : aggT Try.prog 66 = some true := by kernel_rfl
theorem sz_implDepot : szT Try.prog 66 = some 2 := by kernel_rfl
theorem by_implDepot : (Try.prog.info? 66).map (·.bytes) = some 16 := by kernel_rfl
theorem zv_implDepot : zeroVals Try.prog 66 = some [.int .i64 0, .int .i64 0] := by kernel_rfl
theorem za_implDepot : zeroAtoms Try.prog 66 = some [.v (.int .i64 0), .v (.int .i64 0)] := by kernel_rfl
attribute [go_sem] za_implDepot sz_implDepot
theorem ld_implDepot {m : Mem} {cs : List Value} {K : AV → Prop} : onR (loadS Try.prog 66 m (.at (.pi cs))) K = (2 ≤ cs.length ∧ evK (todo ((cs.take 2).map A.v)) fun cs => K (.ag cs)) := load_piN agg_implDepot sz_implDepot
theorem ti_implDepot : tiOf Try.prog 66 = some ⟨[⟨"Cell", 3, 0, false, "", "", 0⟩, ⟨"Food", 3, 1, false, "", "", 8⟩], [.v (.int .i64 0), .v (.int .i64 0)]⟩ := by kernel_rfl
theorem lp_implDepot {κ ver sz j off : Nat} {m : Mem} {K : AV → Prop} : loadK Try.prog 66 m (.at (.pa κ ver sz j off)) K = (off + 2 ≤ sz ∧ rowAt (todo (m κ)) ver sz j fun r => evK (todo (((r.drop off).take 2).map A.v)) fun cs => K (.ag cs)) := loadK_paB agg_implDepot sz_implDepot
attribute [go_sem] ld_implDepot ti_implDepot lp_implDepot
theorem fp_implDepot_0 {cs : List Value} {K : AV → Prop} : onO (fieldAddrS Try.prog 66 0 (.at (.pi cs))) K = evK (todo (cs.drop 0)) (fun c => K (.at (.pi c))) := fa_pi (fd := ⟨"Cell", 3, 0, false, "", "", 0⟩) Try.underlying66 rfl sz_int
theorem fo_implDepot_0 {κ ver sz i off : Nat} {K : AV → Prop} : onO (fieldAddrS Try.prog 66 0 (.at (.pa κ ver sz i off))) K = evK (todo (off + 0)) (fun o => K (.at (.pa κ ver sz i o))) := fa_pa (fd := ⟨"Cell", 3, 0, false, "", "", 0⟩) Try.underlying66 rfl sz_int
theorem fb_implDepot_0 {κ ver off : Nat} {K : AV → Prop} : onO (fieldAddrS Try.prog 66 0 (.at (.bx κ ver off))) K = evK (todo (off + 0)) (fun o => K (.at (.bx κ ver o))) := fa_bx (fd := ⟨"Cell", 3, 0, false, "", "", 0⟩) Try.underlying66 rfl sz_int
theorem fg_implDepot_0 {cs : List A} {K : AV → Prop} : onR (fieldS Try.prog 66 0 (.ag cs)) K = onO (todo cs[0]?) fun a => K (.at a) := field_1K (fd := ⟨"Cell", 3, 0, false, "", "", 0⟩) Try.underlying66 rfl agg_int
attribute [go_sem] fp_implDepot_0 fo_implDepot_0 fb_implDepot_0 fg_implDepot_0
theorem fp_implDepot_1 {cs : List Value} {K : AV → Prop} : onO (fieldAddrS Try.prog 66 1 (.at (.pi cs))) K = evK (todo (cs.drop 1)) (fun c => K (.at (.pi c))) := fa_pi (fd := ⟨"Food", 3, 1, false, "", "", 8⟩) Try.underlying66 rfl sz_int
theorem fo_implDepot_1 {κ ver sz i off : Nat} {K : AV → Prop} : onO (fieldAddrS Try.prog 66 1 (.at (.pa κ ver sz i off))) K = evK (todo (off + 1)) (fun o => K (.at (.pa κ ver sz i o))) := fa_pa (fd := ⟨"Food", 3, 1, false, "", "", 8⟩) Try.underlying66 rfl sz_int
theorem fb_implDepot_1 {κ ver off : Nat} {K : AV → Prop} : onO (fieldAddrS Try.prog 66 1 (.at (.bx κ ver off))) K = evK (todo (off + 1)) (fun o => K (.at (.bx κ ver o))) := fa_bx (fd := ⟨"Food", 3, 1, false, "", "", 8⟩) Try.underlying66 rfl sz_int
theorem fg_implDepot_1 {cs : List A} {K : AV → Prop} : onR (fieldS Try.prog 66 1 (.ag cs)) K = onO (todo cs[1]?) fun a => K (.at a) := field_1K (fd := ⟨"Food", 3, 1, false, "", "", 8⟩) Try.underlying66 rfl agg_int
attribute [go_sem] fp_implDepot_1 fo_implDepot_1 fb_implDepot_1 fg_implDepot_1
theorem lb_implDepot {m : Mem} {κ ver off : Nat} {K : AV → Prop} : onR (loadS Try.prog 66 m (.at (.bx κ ver off))) K = boxAt (todo (m κ)) ver fun cells => off + 2 ≤ cells.length ∧ evK (todo ((cells.drop off).take 2)) fun cs => K (.ag cs) := load_bxKN agg_implDepot sz_implDepot
theorem sb_implDepot {m : Mem} {κ ver off : Nat} {X : AV} {K : Mem → Prop} : onR (storeS Try.prog 66 m (.at (.bx κ ver off)) X) K = boxAt (todo (m κ)) ver fun cells => onO (todo (atomsOf X)) fun new => new.length = 2 ∧ off + 2 ≤ cells.length ∧ evK (todo (splice cells off new)) fun cs => K (upd m κ (.box ver cs)) := store_bxK sz_implDepot
theorem sp_implDepot {m : Mem} {κ ver sz j off : Nat} {X : AV} {K : Mem → Prop} : onR (storeS Try.prog 66 m (.at (.pa κ ver sz j off)) X) K = arrAt (todo (m κ)) ver sz fun rows => onO (todo ((atomsOf X).bind valsOf)) fun us => us.length = 2 ∧ (j < rows.length ∧ off + 2 ≤ sz) ∧ evK (todo (rows.set j (splice (rows.getD j []) off us))) fun rs => K (upd m κ (.arr ver sz rs)) := store_paK sz_implDepot
attribute [go_sem] lb_implDepot sb_implDepot sp_implDepot
theorem und_implDepotS : Try.prog.underlying 38 = some (.slice 66) := Try.underlying38
theorem agg_implDepotS : aggT Try.prog 38 = some false := by kernel_rfl
theorem sz_implDepotS : szT Try.prog 38 = some 1 := by kernel_rfl
theorem ix_implDepotS {rows : List (List Value)} {k : IntKind} {i : Int} {K : AV → Prop} : onR (indexAddrS Try.prog 38 (.at (.im 2 rows)) (.at (.v (.int k i)))) K = ((0 ≤ i ∧ i < (rows.length : Int)) ∧ ∀ r, rows[i.toNat]? = some r → K (.at (.pi r))) := idx_im und_implDepotS sz_implDepot
theorem io_implDepotS {κ ver n : Nat} {k : IntKind} {i : Int} {K : AV → Prop} : onR (indexAddrS Try.prog 38 (.at (.ow κ ver 2 n)) (.at (.v (.int k i)))) K = ((0 ≤ i ∧ i < (n : Int)) ∧ evK (todo i.toNat) fun j => K (.at (.pa κ ver 2 j 0))) := idx_ow und_implDepotS sz_implDepot
theorem ln_implDepotS {sz : Nat} {rows : List (List Value)} {K : Value → Prop} : onO (lenS Try.prog 38 (.at (.im sz rows))) K = K (.int .i64 rows.length) := len_im und_implDepotS
theorem lo_implDepotS {κ ver sz n : Nat} {K : Value → Prop} : onO (lenS Try.prog 38 (.at (.ow κ ver sz n))) K = K (.int .i64 n) := len_ow und_implDepotS
theorem lz_implDepotS {K : Value → Prop} : onO (lenS Try.prog 38 (.at .nil)) K = K (.int .i64 0) := len_nil und_implDepotS
theorem si_implDepotS : siOf Try.prog 38 = some ⟨66, 2, 16, [.int .i64 0, .int .i64 0]⟩ := by kernel_rfl
theorem ci_implDepotS {nx : Nat} {q : Bool} {t : Nat → AV} {m : Mem} {rows : List (List Value)} {lo hi : Option Operand} {K : AV → Mem → Prop} : onM (sliceS Try.prog nx q 38 ⟨t, m⟩ (.at (.im 2 rows)) lo hi none) K = onO (todo (boundS ⟨t, m⟩ lo 0)) fun l => onO (todo (boundS ⟨t, m⟩ hi rows.length)) fun h => (0 ≤ l ∧ l ≤ h ∧ h ≤ (rows.length : Int)) ∧ evK (todo ((rows.drop l.toNat).take (h.toNat - l.toNat))) fun rs => K (.at (.im 2 rs)) m := cut_im_k und_implDepotS sz_implDepot
theorem cn_implDepotS {nx : Nat} {q : Bool} {t : Nat → AV} {m : Mem} {lo hi : Option Operand} {K : AV → Mem → Prop} : onM (sliceS Try.prog nx q 38 ⟨t, m⟩ (.at .nil) lo hi none) K = onO (todo (boundS ⟨t, m⟩ lo 0)) fun l => onO (todo (boundS ⟨t, m⟩ hi 0)) fun h => (l = 0 ∧ h = 0) ∧ K (.at .nil) m := cut_nil_k und_implDepotS sz_implDepot
attribute [go_sem] ix_implDepotS io_implDepotS ln_implDepotS lo_implDepotS lz_implDepotS si_implDepotS ci_implDepotS cn_implDepotS
attribute [go_sem] sz_implDepotS
theorem lb_implDepotS {m : Mem} {κ ver off : Nat} {K : AV → Prop} : onR (loadS Try.prog 38 m (.at (.bx κ ver off))) K = boxAt (todo (m κ)) ver fun cells => onO (todo cells[off]?) fun a => K (.at a) := load_bxK1 agg_implDepotS
theorem sb_implDepotS {m : Mem} {κ ver off : Nat} {X : AV} {K : Mem → Prop} : onR (storeS Try.prog 38 m (.at (.bx κ ver off)) X) K = boxAt (todo (m κ)) ver fun cells => onO (todo (atomsOf X)) fun new => new.length = 1 ∧ off + 1 ≤ cells.length ∧ evK (todo (splice cells off new)) fun cs => K (upd m κ (.box ver cs)) := store_bxK sz_implDepotS
theorem sp_implDepotS {m : Mem} {κ ver sz j off : Nat} {X : AV} {K : Mem → Prop} : onR (storeS Try.prog 38 m (.at (.pa κ ver sz j off)) X) K = arrAt (todo (m κ)) ver sz fun rows => onO (todo ((atomsOf X).bind valsOf)) fun us => us.length = 1 ∧ (j < rows.length ∧ off + 1 ≤ sz) ∧ evK (todo (rows.set j (splice (rows.getD j []) off us))) fun rs => K (upd m κ (.arr ver sz rs)) := store_paK sz_implDepotS
attribute [go_sem] lb_implDepotS sb_implDepotS sp_implDepotS
theorem agg_implParty : aggT Try.prog 37 = some true := by kernel_rfl
theorem sz_implParty : szT Try.prog 37 = some 4 := by kernel_rfl
theorem by_implParty : (Try.prog.info? 37).map (·.bytes) = some 64 := by kernel_rfl
theorem zv_implParty : zeroVals Try.prog 37 = some [.int .i64 0, .int .i64 0, .slice none 0 0, .slice none 0 0] := by kernel_rfl
theorem za_implParty : zeroAtoms Try.prog 37 = some [.v (.int .i64 0), .v (.int .i64 0), .nil, .nil] := by kernel_rfl
attribute [go_sem] za_implParty sz_implParty
theorem ld_implParty {m : Mem} {cs : List Value} {K : AV → Prop} : onR (loadS Try.prog 37 m (.at (.pi cs))) K = (4 ≤ cs.length ∧ evK (todo ((cs.take 4).map A.v)) fun cs => K (.ag cs)) := load_piN agg_implParty sz_implParty
theorem ti_implParty : tiOf Try.prog 37 = some ⟨[⟨"At", 3, 0, false, "", "", 0⟩, ⟨"Food", 3, 1, false, "", "", 8⟩, ⟨"Crew", 35, 2, false, "", "", 16⟩, ⟨"Past", 29, 3, false, "", "", 40⟩], [.v (.int .i64 0), .v (.int .i64 0), .nil, .nil]⟩ := by kernel_rfl
theorem lp_implParty {κ ver sz j off : Nat} {m : Mem} {K : AV → Prop} : loadK Try.prog 37 m (.at (.pa κ ver sz j off)) K = (off + 4 ≤ sz ∧ rowAt (todo (m κ)) ver sz j fun r => evK (todo (((r.drop off).take 4).map A.v)) fun cs => K (.ag cs)) := loadK_paB agg_implParty sz_implParty
attribute [go_sem] ld_implParty ti_implParty lp_implParty
theorem fp_implParty_0 {cs : List Value} {K : AV → Prop} : onO (fieldAddrS Try.prog 37 0 (.at (.pi cs))) K = evK (todo (cs.drop 0)) (fun c => K (.at (.pi c))) := fa_pi (fd := ⟨"At", 3, 0, false, "", "", 0⟩) Try.underlying37 rfl sz_int
theorem fo_implParty_0 {κ ver sz i off : Nat} {K : AV → Prop} : onO (fieldAddrS Try.prog 37 0 (.at (.pa κ ver sz i off))) K = evK (todo (off + 0)) (fun o => K (.at (.pa κ ver sz i o))) := fa_pa (fd := ⟨"At", 3, 0, false, "", "", 0⟩) Try.underlying37 rfl sz_int
theorem fb_implParty_0 {κ ver off : Nat} {K : AV → Prop} : onO (fieldAddrS Try.prog 37 0 (.at (.bx κ ver off))) K = evK (todo (off + 0)) (fun o => K (.at (.bx κ ver o))) := fa_bx (fd := ⟨"At", 3, 0, false, "", "", 0⟩) Try.underlying37 rfl sz_int
theorem fg_implParty_0 {cs : List A} {K : AV → Prop} : onR (fieldS Try.prog 37 0 (.ag cs)) K = onO (todo cs[0]?) fun a => K (.at a) := field_1K (fd := ⟨"At", 3, 0, false, "", "", 0⟩) Try.underlying37 rfl agg_int
attribute [go_sem] fp_implParty_0 fo_implParty_0 fb_implParty_0 fg_implParty_0
theorem fp_implParty_1 {cs : List Value} {K : AV → Prop} : onO (fieldAddrS Try.prog 37 1 (.at (.pi cs))) K = evK (todo (cs.drop 1)) (fun c => K (.at (.pi c))) := fa_pi (fd := ⟨"Food", 3, 1, false, "", "", 8⟩) Try.underlying37 rfl sz_int
theorem fo_implParty_1 {κ ver sz i off : Nat} {K : AV → Prop} : onO (fieldAddrS Try.prog 37 1 (.at (.pa κ ver sz i off))) K = evK (todo (off + 1)) (fun o => K (.at (.pa κ ver sz i o))) := fa_pa (fd := ⟨"Food", 3, 1, false, "", "", 8⟩) Try.underlying37 rfl sz_int
theorem fb_implParty_1 {κ ver off : Nat} {K : AV → Prop} : onO (fieldAddrS Try.prog 37 1 (.at (.bx κ ver off))) K = evK (todo (off + 1)) (fun o => K (.at (.bx κ ver o))) := fa_bx (fd := ⟨"Food", 3, 1, false, "", "", 8⟩) Try.underlying37 rfl sz_int
theorem fg_implParty_1 {cs : List A} {K : AV → Prop} : onR (fieldS Try.prog 37 1 (.ag cs)) K = onO (todo cs[1]?) fun a => K (.at a) := field_1K (fd := ⟨"Food", 3, 1, false, "", "", 8⟩) Try.underlying37 rfl agg_int
attribute [go_sem] fp_implParty_1 fo_implParty_1 fb_implParty_1 fg_implParty_1
theorem fp_implParty_2 {cs : List Value} {K : AV → Prop} : onO (fieldAddrS Try.prog 37 2 (.at (.pi cs))) K = evK (todo (cs.drop 2)) (fun c => K (.at (.pi c))) := fa_pi (fd := ⟨"Crew", 35, 2, false, "", "", 16⟩) Try.underlying37 rfl sz_implMemberS
theorem fo_implParty_2 {κ ver sz i off : Nat} {K : AV → Prop} : onO (fieldAddrS Try.prog 37 2 (.at (.pa κ ver sz i off))) K = evK (todo (off + 2)) (fun o => K (.at (.pa κ ver sz i o))) := fa_pa (fd := ⟨"Crew", 35, 2, false, "", "", 16⟩) Try.underlying37 rfl sz_implMemberS
theorem fb_implParty_2 {κ ver off : Nat} {K : AV → Prop} : onO (fieldAddrS Try.prog 37 2 (.at (.bx κ ver off))) K = evK (todo (off + 2)) (fun o => K (.at (.bx κ ver o))) := fa_bx (fd := ⟨"Crew", 35, 2, false, "", "", 16⟩) Try.underlying37 rfl sz_implMemberS
theorem fg_implParty_2 {cs : List A} {K : AV → Prop} : onR (fieldS Try.prog 37 2 (.ag cs)) K = onO (todo cs[2]?) fun a => K (.at a) := field_1K (fd := ⟨"Crew", 35, 2, false, "", "", 16⟩) Try.underlying37 rfl agg_implMemberS
attribute [go_sem] fp_implParty_2 fo_implParty_2 fb_implParty_2 fg_implParty_2
theorem fp_implParty_3 {cs : List Value} {K : AV → Prop} : onO (fieldAddrS Try.prog 37 3 (.at (.pi cs))) K = evK (todo (cs.drop 3)) (fun c => K (.at (.pi c))) := fa_pi (fd := ⟨"Past", 29, 3, false, "", "", 40⟩) Try.underlying37 rfl sz_boolS
theorem fo_implParty_3 {κ ver sz i off : Nat} {K : AV → Prop} : onO (fieldAddrS Try.prog 37 3 (.at (.pa κ ver sz i off))) K = evK (todo (off + 3)) (fun o => K (.at (.pa κ ver sz i o))) := fa_pa (fd := ⟨"Past", 29, 3, false, "", "", 40⟩) Try.underlying37 rfl sz_boolS
theorem fb_implParty_3 {κ ver off : Nat} {K : AV → Prop} : onO (fieldAddrS Try.prog 37 3 (.at (.bx κ ver off))) K = evK (todo (off + 3)) (fun o => K (.at (.bx κ ver o))) := fa_bx (fd := ⟨"Past", 29, 3, false, "", "", 40⟩) Try.underlying37 rfl sz_boolS
theorem fg_implParty_3 {cs : List A} {K : AV → Prop} : onR (fieldS Try.prog 37 3 (.ag cs)) K = onO (todo cs[3]?) fun a => K (.at a) := field_1K (fd := ⟨"Past", 29, 3, false, "", "", 40⟩) Try.underlying37 rfl agg_boolS
attribute [go_sem] fp_implParty_3 fo_implParty_3 fb_implParty_3 fg_implParty_3
theorem lb_implParty {m : Mem} {κ ver off : Nat} {K : AV → Prop} : onR (loadS Try.prog 37 m (.at (.bx κ ver off))) K = boxAt (todo (m κ)) ver fun cells => off + 4 ≤ cells.length ∧ evK (todo ((cells.drop off).take 4)) fun cs => K (.ag cs) := load_bxKN agg_implParty sz_implParty
theorem sb_implParty {m : Mem} {κ ver off : Nat} {X : AV} {K : Mem → Prop} : onR (storeS Try.prog 37 m (.at (.bx κ ver off)) X) K = boxAt (todo (m κ)) ver fun cells => onO (todo (atomsOf X)) fun new => new.length = 4 ∧ off + 4 ≤ cells.length ∧ evK (todo (splice cells off new)) fun cs => K (upd m κ (.box ver cs)) := store_bxK sz_implParty
theorem sp_implParty {m : Mem} {κ ver sz j off : Nat} {X : AV} {K : Mem → Prop} : onR (storeS Try.prog 37 m (.at (.pa κ ver sz j off)) X) K = arrAt (todo (m κ)) ver sz fun rows => onO (todo ((atomsOf X).bind valsOf)) fun us => us.length = 4 ∧ (j < rows.length ∧ off + 4 ≤ sz) ∧ evK (todo (rows.set j (splice (rows.getD j []) off us))) fun rs => K (upd m κ (.arr ver sz rs)) := store_paK sz_implParty
attribute [go_sem] lb_implParty sb_implParty sp_implParty
theorem agg_lawsLand : aggT Try.prog 24 = some true := by kernel_rfl
theorem sz_lawsLand : szT Try.prog 24 = some 3 := by kernel_rfl
theorem by_lawsLand : (Try.prog.info? 24).map (·.bytes) = some 40 := by kernel_rfl
theorem zv_lawsLand : zeroVals Try.prog 24 = some [.int .i64 0, .int .i64 0, .slice none 0 0] := by kernel_rfl
theorem za_lawsLand : zeroAtoms Try.prog 24 = some [.v (.int .i64 0), .v (.int .i64 0), .nil] := by kernel_rfl
attribute [go_sem] za_lawsLand sz_lawsLand
theorem ld_lawsLand {m : Mem} {cs : List Value} {K : AV → Prop} : onR (loadS Try.prog 24 m (.at (.pi cs))) K = (3 ≤ cs.length ∧ evK (todo ((cs.take 3).map A.v)) fun cs => K (.ag cs)) := load_piN agg_lawsLand sz_lawsLand
theorem ti_lawsLand : tiOf Try.prog 24 = some ⟨[⟨"W", 3, 0, false, "", "", 0⟩, ⟨"H", 3, 1, false, "", "", 8⟩, ⟨"Cells", 22, 2, false, "", "", 16⟩], [.v (.int .i64 0), .v (.int .i64 0), .nil]⟩ := by kernel_rfl
theorem lp_lawsLand {κ ver sz j off : Nat} {m : Mem} {K : AV → Prop} : loadK Try.prog 24 m (.at (.pa κ ver sz j off)) K = (off + 3 ≤ sz ∧ rowAt (todo (m κ)) ver sz j fun r => evK (todo (((r.drop off).take 3).map A.v)) fun cs => K (.ag cs)) := loadK_paB agg_lawsLand sz_lawsLand
attribute [go_sem] ld_lawsLand ti_lawsLand lp_lawsLand
theorem fp_lawsLand_0 {cs : List Value} {K : AV → Prop} : onO (fieldAddrS Try.prog 24 0 (.at (.pi cs))) K = evK (todo (cs.drop 0)) (fun c => K (.at (.pi c))) := fa_pi (fd := ⟨"W", 3, 0, false, "", "", 0⟩) Try.underlying24 rfl sz_int
theorem fo_lawsLand_0 {κ ver sz i off : Nat} {K : AV → Prop} : onO (fieldAddrS Try.prog 24 0 (.at (.pa κ ver sz i off))) K = evK (todo (off + 0)) (fun o => K (.at (.pa κ ver sz i o))) := fa_pa (fd := ⟨"W", 3, 0, false, "", "", 0⟩) Try.underlying24 rfl sz_int
theorem fb_lawsLand_0 {κ ver off : Nat} {K : AV → Prop} : onO (fieldAddrS Try.prog 24 0 (.at (.bx κ ver off))) K = evK (todo (off + 0)) (fun o => K (.at (.bx κ ver o))) := fa_bx (fd := ⟨"W", 3, 0, false, "", "", 0⟩) Try.underlying24 rfl sz_int
theorem fg_lawsLand_0 {cs : List A} {K : AV → Prop} : onR (fieldS Try.prog 24 0 (.ag cs)) K = onO (todo cs[0]?) fun a => K (.at a) := field_1K (fd := ⟨"W", 3, 0, false, "", "", 0⟩) Try.underlying24 rfl agg_int
attribute [go_sem] fp_lawsLand_0 fo_lawsLand_0 fb_lawsLand_0 fg_lawsLand_0
theorem fp_lawsLand_1 {cs : List Value} {K : AV → Prop} : onO (fieldAddrS Try.prog 24 1 (.at (.pi cs))) K = evK (todo (cs.drop 1)) (fun c => K (.at (.pi c))) := fa_pi (fd := ⟨"H", 3, 1, false, "", "", 8⟩) Try.underlying24 rfl sz_int
theorem fo_lawsLand_1 {κ ver sz i off : Nat} {K : AV → Prop} : onO (fieldAddrS Try.prog 24 1 (.at (.pa κ ver sz i off))) K = evK (todo (off + 1)) (fun o => K (.at (.pa κ ver sz i o))) := fa_pa (fd := ⟨"H", 3, 1, false, "", "", 8⟩) Try.underlying24 rfl sz_int
theorem fb_lawsLand_1 {κ ver off : Nat} {K : AV → Prop} : onO (fieldAddrS Try.prog 24 1 (.at (.bx κ ver off))) K = evK (todo (off + 1)) (fun o => K (.at (.bx κ ver o))) := fa_bx (fd := ⟨"H", 3, 1, false, "", "", 8⟩) Try.underlying24 rfl sz_int
theorem fg_lawsLand_1 {cs : List A} {K : AV → Prop} : onR (fieldS Try.prog 24 1 (.ag cs)) K = onO (todo cs[1]?) fun a => K (.at a) := field_1K (fd := ⟨"H", 3, 1, false, "", "", 8⟩) Try.underlying24 rfl agg_int
attribute [go_sem] fp_lawsLand_1 fo_lawsLand_1 fb_lawsLand_1 fg_lawsLand_1
theorem fp_lawsLand_2 {cs : List Value} {K : AV → Prop} : onO (fieldAddrS Try.prog 24 2 (.at (.pi cs))) K = evK (todo (cs.drop 2)) (fun c => K (.at (.pi c))) := fa_pi (fd := ⟨"Cells", 22, 2, false, "", "", 16⟩) Try.underlying24 rfl sz_intS
theorem fo_lawsLand_2 {κ ver sz i off : Nat} {K : AV → Prop} : onO (fieldAddrS Try.prog 24 2 (.at (.pa κ ver sz i off))) K = evK (todo (off + 2)) (fun o => K (.at (.pa κ ver sz i o))) := fa_pa (fd := ⟨"Cells", 22, 2, false, "", "", 16⟩) Try.underlying24 rfl sz_intS
theorem fb_lawsLand_2 {κ ver off : Nat} {K : AV → Prop} : onO (fieldAddrS Try.prog 24 2 (.at (.bx κ ver off))) K = evK (todo (off + 2)) (fun o => K (.at (.bx κ ver o))) := fa_bx (fd := ⟨"Cells", 22, 2, false, "", "", 16⟩) Try.underlying24 rfl sz_intS
theorem fg_lawsLand_2 {cs : List A} {K : AV → Prop} : onR (fieldS Try.prog 24 2 (.ag cs)) K = onO (todo cs[2]?) fun a => K (.at a) := field_1K (fd := ⟨"Cells", 22, 2, false, "", "", 16⟩) Try.underlying24 rfl agg_intS
attribute [go_sem] fp_lawsLand_2 fo_lawsLand_2 fb_lawsLand_2 fg_lawsLand_2
theorem lb_lawsLand {m : Mem} {κ ver off : Nat} {K : AV → Prop} : onR (loadS Try.prog 24 m (.at (.bx κ ver off))) K = boxAt (todo (m κ)) ver fun cells => off + 3 ≤ cells.length ∧ evK (todo ((cells.drop off).take 3)) fun cs => K (.ag cs) := load_bxKN agg_lawsLand sz_lawsLand
theorem sb_lawsLand {m : Mem} {κ ver off : Nat} {X : AV} {K : Mem → Prop} : onR (storeS Try.prog 24 m (.at (.bx κ ver off)) X) K = boxAt (todo (m κ)) ver fun cells => onO (todo (atomsOf X)) fun new => new.length = 3 ∧ off + 3 ≤ cells.length ∧ evK (todo (splice cells off new)) fun cs => K (upd m κ (.box ver cs)) := store_bxK sz_lawsLand
theorem sp_lawsLand {m : Mem} {κ ver sz j off : Nat} {X : AV} {K : Mem → Prop} : onR (storeS Try.prog 24 m (.at (.pa κ ver sz j off)) X) K = arrAt (todo (m κ)) ver sz fun rows => onO (todo ((atomsOf X).bind valsOf)) fun us => us.length = 3 ∧ (j < rows.length ∧ off + 3 ≤ sz) ∧ evK (todo (rows.set j (splice (rows.getD j []) off us))) fun rs => K (upd m κ (.arr ver sz rs)) := store_paK sz_lawsLand
attribute [go_sem] lb_lawsLand sb_lawsLand sp_lawsLand
theorem agg_lawsRule : aggT Try.prog 26 = some true := by kernel_rfl
theorem sz_lawsRule : szT Try.prog 26 = some 2 := by kernel_rfl
theorem by_lawsRule : (Try.prog.info? 26).map (·.bytes) = some 16 := by kernel_rfl
theorem zv_lawsRule : zeroVals Try.prog 26 = some [.int .i64 0, .int .i64 0] := by kernel_rfl
theorem za_lawsRule : zeroAtoms Try.prog 26 = some [.v (.int .i64 0), .v (.int .i64 0)] := by kernel_rfl
attribute [go_sem] za_lawsRule sz_lawsRule
theorem ld_lawsRule {m : Mem} {cs : List Value} {K : AV → Prop} : onR (loadS Try.prog 26 m (.at (.pi cs))) K = (2 ≤ cs.length ∧ evK (todo ((cs.take 2).map A.v)) fun cs => K (.ag cs)) := load_piN agg_lawsRule sz_lawsRule
theorem ti_lawsRule : tiOf Try.prog 26 = some ⟨[⟨"Most", 3, 0, false, "", "", 0⟩, ⟨"Window", 3, 1, false, "", "", 8⟩], [.v (.int .i64 0), .v (.int .i64 0)]⟩ := by kernel_rfl
theorem lp_lawsRule {κ ver sz j off : Nat} {m : Mem} {K : AV → Prop} : loadK Try.prog 26 m (.at (.pa κ ver sz j off)) K = (off + 2 ≤ sz ∧ rowAt (todo (m κ)) ver sz j fun r => evK (todo (((r.drop off).take 2).map A.v)) fun cs => K (.ag cs)) := loadK_paB agg_lawsRule sz_lawsRule
attribute [go_sem] ld_lawsRule ti_lawsRule lp_lawsRule
theorem fp_lawsRule_0 {cs : List Value} {K : AV → Prop} : onO (fieldAddrS Try.prog 26 0 (.at (.pi cs))) K = evK (todo (cs.drop 0)) (fun c => K (.at (.pi c))) := fa_pi (fd := ⟨"Most", 3, 0, false, "", "", 0⟩) Try.underlying26 rfl sz_int
theorem fo_lawsRule_0 {κ ver sz i off : Nat} {K : AV → Prop} : onO (fieldAddrS Try.prog 26 0 (.at (.pa κ ver sz i off))) K = evK (todo (off + 0)) (fun o => K (.at (.pa κ ver sz i o))) := fa_pa (fd := ⟨"Most", 3, 0, false, "", "", 0⟩) Try.underlying26 rfl sz_int
theorem fb_lawsRule_0 {κ ver off : Nat} {K : AV → Prop} : onO (fieldAddrS Try.prog 26 0 (.at (.bx κ ver off))) K = evK (todo (off + 0)) (fun o => K (.at (.bx κ ver o))) := fa_bx (fd := ⟨"Most", 3, 0, false, "", "", 0⟩) Try.underlying26 rfl sz_int
theorem fg_lawsRule_0 {cs : List A} {K : AV → Prop} : onR (fieldS Try.prog 26 0 (.ag cs)) K = onO (todo cs[0]?) fun a => K (.at a) := field_1K (fd := ⟨"Most", 3, 0, false, "", "", 0⟩) Try.underlying26 rfl agg_int
attribute [go_sem] fp_lawsRule_0 fo_lawsRule_0 fb_lawsRule_0 fg_lawsRule_0
theorem fp_lawsRule_1 {cs : List Value} {K : AV → Prop} : onO (fieldAddrS Try.prog 26 1 (.at (.pi cs))) K = evK (todo (cs.drop 1)) (fun c => K (.at (.pi c))) := fa_pi (fd := ⟨"Window", 3, 1, false, "", "", 8⟩) Try.underlying26 rfl sz_int
theorem fo_lawsRule_1 {κ ver sz i off : Nat} {K : AV → Prop} : onO (fieldAddrS Try.prog 26 1 (.at (.pa κ ver sz i off))) K = evK (todo (off + 1)) (fun o => K (.at (.pa κ ver sz i o))) := fa_pa (fd := ⟨"Window", 3, 1, false, "", "", 8⟩) Try.underlying26 rfl sz_int
theorem fb_lawsRule_1 {κ ver off : Nat} {K : AV → Prop} : onO (fieldAddrS Try.prog 26 1 (.at (.bx κ ver off))) K = evK (todo (off + 1)) (fun o => K (.at (.bx κ ver o))) := fa_bx (fd := ⟨"Window", 3, 1, false, "", "", 8⟩) Try.underlying26 rfl sz_int
theorem fg_lawsRule_1 {cs : List A} {K : AV → Prop} : onR (fieldS Try.prog 26 1 (.ag cs)) K = onO (todo cs[1]?) fun a => K (.at a) := field_1K (fd := ⟨"Window", 3, 1, false, "", "", 8⟩) Try.underlying26 rfl agg_int
attribute [go_sem] fp_lawsRule_1 fo_lawsRule_1 fb_lawsRule_1 fg_lawsRule_1
theorem lb_lawsRule {m : Mem} {κ ver off : Nat} {K : AV → Prop} : onR (loadS Try.prog 26 m (.at (.bx κ ver off))) K = boxAt (todo (m κ)) ver fun cells => off + 2 ≤ cells.length ∧ evK (todo ((cells.drop off).take 2)) fun cs => K (.ag cs) := load_bxKN agg_lawsRule sz_lawsRule
theorem sb_lawsRule {m : Mem} {κ ver off : Nat} {X : AV} {K : Mem → Prop} : onR (storeS Try.prog 26 m (.at (.bx κ ver off)) X) K = boxAt (todo (m κ)) ver fun cells => onO (todo (atomsOf X)) fun new => new.length = 2 ∧ off + 2 ≤ cells.length ∧ evK (todo (splice cells off new)) fun cs => K (upd m κ (.box ver cs)) := store_bxK sz_lawsRule
theorem sp_lawsRule {m : Mem} {κ ver sz j off : Nat} {X : AV} {K : Mem → Prop} : onR (storeS Try.prog 26 m (.at (.pa κ ver sz j off)) X) K = arrAt (todo (m κ)) ver sz fun rows => onO (todo ((atomsOf X).bind valsOf)) fun us => us.length = 2 ∧ (j < rows.length ∧ off + 2 ≤ sz) ∧ evK (todo (rows.set j (splice (rows.getD j []) off us))) fun rs => K (upd m κ (.arr ver sz rs)) := store_paK sz_lawsRule
attribute [go_sem] lb_lawsRule sb_lawsRule sp_lawsRule
theorem agg_lawsMember : aggT Try.prog 95 = some true := by kernel_rfl
theorem sz_lawsMember : szT Try.prog 95 = some 4 := by kernel_rfl
theorem by_lawsMember : (Try.prog.info? 95).map (·.bytes) = some 32 := by kernel_rfl
theorem zv_lawsMember : zeroVals Try.prog 95 = some [.int .i64 0, .int .i64 0, .int .i64 0, .bool false] := by kernel_rfl
theorem za_lawsMember : zeroAtoms Try.prog 95 = some [.v (.int .i64 0), .v (.int .i64 0), .v (.int .i64 0), .v (.bool false)] := by kernel_rfl
attribute [go_sem] za_lawsMember sz_lawsMember
theorem ld_lawsMember {m : Mem} {cs : List Value} {K : AV → Prop} : onR (loadS Try.prog 95 m (.at (.pi cs))) K = (4 ≤ cs.length ∧ evK (todo ((cs.take 4).map A.v)) fun cs => K (.ag cs)) := load_piN agg_lawsMember sz_lawsMember
theorem ti_lawsMember : tiOf Try.prog 95 = some ⟨[⟨"Id", 3, 0, false, "", "", 0⟩, ⟨"Strength", 3, 1, false, "", "", 8⟩, ⟨"Need", 3, 2, false, "", "", 16⟩, ⟨"Ill", 4, 3, false, "", "", 24⟩], [.v (.int .i64 0), .v (.int .i64 0), .v (.int .i64 0), .v (.bool false)]⟩ := by kernel_rfl
theorem lp_lawsMember {κ ver sz j off : Nat} {m : Mem} {K : AV → Prop} : loadK Try.prog 95 m (.at (.pa κ ver sz j off)) K = (off + 4 ≤ sz ∧ rowAt (todo (m κ)) ver sz j fun r => evK (todo (((r.drop off).take 4).map A.v)) fun cs => K (.ag cs)) := loadK_paB agg_lawsMember sz_lawsMember
attribute [go_sem] ld_lawsMember ti_lawsMember lp_lawsMember
theorem fp_lawsMember_0 {cs : List Value} {K : AV → Prop} : onO (fieldAddrS Try.prog 95 0 (.at (.pi cs))) K = evK (todo (cs.drop 0)) (fun c => K (.at (.pi c))) := fa_pi (fd := ⟨"Id", 3, 0, false, "", "", 0⟩) Try.underlying95 rfl sz_int
theorem fo_lawsMember_0 {κ ver sz i off : Nat} {K : AV → Prop} : onO (fieldAddrS Try.prog 95 0 (.at (.pa κ ver sz i off))) K = evK (todo (off + 0)) (fun o => K (.at (.pa κ ver sz i o))) := fa_pa (fd := ⟨"Id", 3, 0, false, "", "", 0⟩) Try.underlying95 rfl sz_int
theorem fb_lawsMember_0 {κ ver off : Nat} {K : AV → Prop} : onO (fieldAddrS Try.prog 95 0 (.at (.bx κ ver off))) K = evK (todo (off + 0)) (fun o => K (.at (.bx κ ver o))) := fa_bx (fd := ⟨"Id", 3, 0, false, "", "", 0⟩) Try.underlying95 rfl sz_int
theorem fg_lawsMember_0 {cs : List A} {K : AV → Prop} : onR (fieldS Try.prog 95 0 (.ag cs)) K = onO (todo cs[0]?) fun a => K (.at a) := field_1K (fd := ⟨"Id", 3, 0, false, "", "", 0⟩) Try.underlying95 rfl agg_int
attribute [go_sem] fp_lawsMember_0 fo_lawsMember_0 fb_lawsMember_0 fg_lawsMember_0
theorem fp_lawsMember_1 {cs : List Value} {K : AV → Prop} : onO (fieldAddrS Try.prog 95 1 (.at (.pi cs))) K = evK (todo (cs.drop 1)) (fun c => K (.at (.pi c))) := fa_pi (fd := ⟨"Strength", 3, 1, false, "", "", 8⟩) Try.underlying95 rfl sz_int
theorem fo_lawsMember_1 {κ ver sz i off : Nat} {K : AV → Prop} : onO (fieldAddrS Try.prog 95 1 (.at (.pa κ ver sz i off))) K = evK (todo (off + 1)) (fun o => K (.at (.pa κ ver sz i o))) := fa_pa (fd := ⟨"Strength", 3, 1, false, "", "", 8⟩) Try.underlying95 rfl sz_int
theorem fb_lawsMember_1 {κ ver off : Nat} {K : AV → Prop} : onO (fieldAddrS Try.prog 95 1 (.at (.bx κ ver off))) K = evK (todo (off + 1)) (fun o => K (.at (.bx κ ver o))) := fa_bx (fd := ⟨"Strength", 3, 1, false, "", "", 8⟩) Try.underlying95 rfl sz_int
theorem fg_lawsMember_1 {cs : List A} {K : AV → Prop} : onR (fieldS Try.prog 95 1 (.ag cs)) K = onO (todo cs[1]?) fun a => K (.at a) := field_1K (fd := ⟨"Strength", 3, 1, false, "", "", 8⟩) Try.underlying95 rfl agg_int
attribute [go_sem] fp_lawsMember_1 fo_lawsMember_1 fb_lawsMember_1 fg_lawsMember_1
theorem fp_lawsMember_2 {cs : List Value} {K : AV → Prop} : onO (fieldAddrS Try.prog 95 2 (.at (.pi cs))) K = evK (todo (cs.drop 2)) (fun c => K (.at (.pi c))) := fa_pi (fd := ⟨"Need", 3, 2, false, "", "", 16⟩) Try.underlying95 rfl sz_int
theorem fo_lawsMember_2 {κ ver sz i off : Nat} {K : AV → Prop} : onO (fieldAddrS Try.prog 95 2 (.at (.pa κ ver sz i off))) K = evK (todo (off + 2)) (fun o => K (.at (.pa κ ver sz i o))) := fa_pa (fd := ⟨"Need", 3, 2, false, "", "", 16⟩) Try.underlying95 rfl sz_int
theorem fb_lawsMember_2 {κ ver off : Nat} {K : AV → Prop} : onO (fieldAddrS Try.prog 95 2 (.at (.bx κ ver off))) K = evK (todo (off + 2)) (fun o => K (.at (.bx κ ver o))) := fa_bx (fd := ⟨"Need", 3, 2, false, "", "", 16⟩) Try.underlying95 rfl sz_int
theorem fg_lawsMember_2 {cs : List A} {K : AV → Prop} : onR (fieldS Try.prog 95 2 (.ag cs)) K = onO (todo cs[2]?) fun a => K (.at a) := field_1K (fd := ⟨"Need", 3, 2, false, "", "", 16⟩) Try.underlying95 rfl agg_int
attribute [go_sem] fp_lawsMember_2 fo_lawsMember_2 fb_lawsMember_2 fg_lawsMember_2
theorem fp_lawsMember_3 {cs : List Value} {K : AV → Prop} : onO (fieldAddrS Try.prog 95 3 (.at (.pi cs))) K = evK (todo (cs.drop 3)) (fun c => K (.at (.pi c))) := fa_pi (fd := ⟨"Ill", 4, 3, false, "", "", 24⟩) Try.underlying95 rfl sz_bool
theorem fo_lawsMember_3 {κ ver sz i off : Nat} {K : AV → Prop} : onO (fieldAddrS Try.prog 95 3 (.at (.pa κ ver sz i off))) K = evK (todo (off + 3)) (fun o => K (.at (.pa κ ver sz i o))) := fa_pa (fd := ⟨"Ill", 4, 3, false, "", "", 24⟩) Try.underlying95 rfl sz_bool
theorem fb_lawsMember_3 {κ ver off : Nat} {K : AV → Prop} : onO (fieldAddrS Try.prog 95 3 (.at (.bx κ ver off))) K = evK (todo (off + 3)) (fun o => K (.at (.bx κ ver o))) := fa_bx (fd := ⟨"Ill", 4, 3, false, "", "", 24⟩) Try.underlying95 rfl sz_bool
theorem fg_lawsMember_3 {cs : List A} {K : AV → Prop} : onR (fieldS Try.prog 95 3 (.ag cs)) K = onO (todo cs[3]?) fun a => K (.at a) := field_1K (fd := ⟨"Ill", 4, 3, false, "", "", 24⟩) Try.underlying95 rfl agg_bool
attribute [go_sem] fp_lawsMember_3 fo_lawsMember_3 fb_lawsMember_3 fg_lawsMember_3
theorem lb_lawsMember {m : Mem} {κ ver off : Nat} {K : AV → Prop} : onR (loadS Try.prog 95 m (.at (.bx κ ver off))) K = boxAt (todo (m κ)) ver fun cells => off + 4 ≤ cells.length ∧ evK (todo ((cells.drop off).take 4)) fun cs => K (.ag cs) := load_bxKN agg_lawsMember sz_lawsMember
theorem sb_lawsMember {m : Mem} {κ ver off : Nat} {X : AV} {K : Mem → Prop} : onR (storeS Try.prog 95 m (.at (.bx κ ver off)) X) K = boxAt (todo (m κ)) ver fun cells => onO (todo (atomsOf X)) fun new => new.length = 4 ∧ off + 4 ≤ cells.length ∧ evK (todo (splice cells off new)) fun cs => K (upd m κ (.box ver cs)) := store_bxK sz_lawsMember
theorem sp_lawsMember {m : Mem} {κ ver sz j off : Nat} {X : AV} {K : Mem → Prop} : onR (storeS Try.prog 95 m (.at (.pa κ ver sz j off)) X) K = arrAt (todo (m κ)) ver sz fun rows => onO (todo ((atomsOf X).bind valsOf)) fun us => us.length = 4 ∧ (j < rows.length ∧ off + 4 ≤ sz) ∧ evK (todo (rows.set j (splice (rows.getD j []) off us))) fun rs => K (upd m κ (.arr ver sz rs)) := store_paK sz_lawsMember
attribute [go_sem] lb_lawsMember sb_lawsMember sp_lawsMember
theorem und_lawsMemberS : Try.prog.underlying 28 = some (.slice 95) := Try.underlying28
theorem agg_lawsMemberS : aggT Try.prog 28 = some false := by kernel_rfl
theorem sz_lawsMemberS : szT Try.prog 28 = some 1 := by kernel_rfl
theorem ix_lawsMemberS {rows : List (List Value)} {k : IntKind} {i : Int} {K : AV → Prop} : onR (indexAddrS Try.prog 28 (.at (.im 4 rows)) (.at (.v (.int k i)))) K = ((0 ≤ i ∧ i < (rows.length : Int)) ∧ ∀ r, rows[i.toNat]? = some r → K (.at (.pi r))) := idx_im und_lawsMemberS sz_lawsMember
theorem io_lawsMemberS {κ ver n : Nat} {k : IntKind} {i : Int} {K : AV → Prop} : onR (indexAddrS Try.prog 28 (.at (.ow κ ver 4 n)) (.at (.v (.int k i)))) K = ((0 ≤ i ∧ i < (n : Int)) ∧ evK (todo i.toNat) fun j => K (.at (.pa κ ver 4 j 0))) := idx_ow und_lawsMemberS sz_lawsMember
theorem ln_lawsMemberS {sz : Nat} {rows : List (List Value)} {K : Value → Prop} : onO (lenS Try.prog 28 (.at (.im sz rows))) K = K (.int .i64 rows.length) := len_im und_lawsMemberS
theorem lo_lawsMemberS {κ ver sz n : Nat} {K : Value → Prop} : onO (lenS Try.prog 28 (.at (.ow κ ver sz n))) K = K (.int .i64 n) := len_ow und_lawsMemberS
theorem lz_lawsMemberS {K : Value → Prop} : onO (lenS Try.prog 28 (.at .nil)) K = K (.int .i64 0) := len_nil und_lawsMemberS
theorem si_lawsMemberS : siOf Try.prog 28 = some ⟨95, 4, 32, [.int .i64 0, .int .i64 0, .int .i64 0, .bool false]⟩ := by kernel_rfl
theorem ci_lawsMemberS {nx : Nat} {q : Bool} {t : Nat → AV} {m : Mem} {rows : List (List Value)} {lo hi : Option Operand} {K : AV → Mem → Prop} : onM (sliceS Try.prog nx q 28 ⟨t, m⟩ (.at (.im 4 rows)) lo hi none) K = onO (todo (boundS ⟨t, m⟩ lo 0)) fun l => onO (todo (boundS ⟨t, m⟩ hi rows.length)) fun h => (0 ≤ l ∧ l ≤ h ∧ h ≤ (rows.length : Int)) ∧ evK (todo ((rows.drop l.toNat).take (h.toNat - l.toNat))) fun rs => K (.at (.im 4 rs)) m := cut_im_k und_lawsMemberS sz_lawsMember
theorem cn_lawsMemberS {nx : Nat} {q : Bool} {t : Nat → AV} {m : Mem} {lo hi : Option Operand} {K : AV → Mem → Prop} : onM (sliceS Try.prog nx q 28 ⟨t, m⟩ (.at .nil) lo hi none) K = onO (todo (boundS ⟨t, m⟩ lo 0)) fun l => onO (todo (boundS ⟨t, m⟩ hi 0)) fun h => (l = 0 ∧ h = 0) ∧ K (.at .nil) m := cut_nil_k und_lawsMemberS sz_lawsMember
attribute [go_sem] ix_lawsMemberS io_lawsMemberS ln_lawsMemberS lo_lawsMemberS lz_lawsMemberS si_lawsMemberS ci_lawsMemberS cn_lawsMemberS
attribute [go_sem] sz_lawsMemberS
theorem lb_lawsMemberS {m : Mem} {κ ver off : Nat} {K : AV → Prop} : onR (loadS Try.prog 28 m (.at (.bx κ ver off))) K = boxAt (todo (m κ)) ver fun cells => onO (todo cells[off]?) fun a => K (.at a) := load_bxK1 agg_lawsMemberS
theorem sb_lawsMemberS {m : Mem} {κ ver off : Nat} {X : AV} {K : Mem → Prop} : onR (storeS Try.prog 28 m (.at (.bx κ ver off)) X) K = boxAt (todo (m κ)) ver fun cells => onO (todo (atomsOf X)) fun new => new.length = 1 ∧ off + 1 ≤ cells.length ∧ evK (todo (splice cells off new)) fun cs => K (upd m κ (.box ver cs)) := store_bxK sz_lawsMemberS
theorem sp_lawsMemberS {m : Mem} {κ ver sz j off : Nat} {X : AV} {K : Mem → Prop} : onR (storeS Try.prog 28 m (.at (.pa κ ver sz j off)) X) K = arrAt (todo (m κ)) ver sz fun rows => onO (todo ((atomsOf X).bind valsOf)) fun us => us.length = 1 ∧ (j < rows.length ∧ off + 1 ≤ sz) ∧ evK (todo (rows.set j (splice (rows.getD j []) off us))) fun rs => K (upd m κ (.arr ver sz rs)) := store_paK sz_lawsMemberS
attribute [go_sem] lb_lawsMemberS sb_lawsMemberS sp_lawsMemberS
theorem agg_lawsDepot : aggT Try.prog 68 = some true := by kernel_rfl
theorem sz_lawsDepot : szT Try.prog 68 = some 2 := by kernel_rfl
theorem by_lawsDepot : (Try.prog.info? 68).map (·.bytes) = some 16 := by kernel_rfl
theorem zv_lawsDepot : zeroVals Try.prog 68 = some [.int .i64 0, .int .i64 0] := by kernel_rfl
theorem za_lawsDepot : zeroAtoms Try.prog 68 = some [.v (.int .i64 0), .v (.int .i64 0)] := by kernel_rfl
attribute [go_sem] za_lawsDepot sz_lawsDepot
theorem ld_lawsDepot {m : Mem} {cs : List Value} {K : AV → Prop} : onR (loadS Try.prog 68 m (.at (.pi cs))) K = (2 ≤ cs.length ∧ evK (todo ((cs.take 2).map A.v)) fun cs => K (.ag cs)) := load_piN agg_lawsDepot sz_lawsDepot
theorem ti_lawsDepot : tiOf Try.prog 68 = some ⟨[⟨"Cell", 3, 0, false, "", "", 0⟩, ⟨"Food", 3, 1, false, "", "", 8⟩], [.v (.int .i64 0), .v (.int .i64 0)]⟩ := by kernel_rfl
theorem lp_lawsDepot {κ ver sz j off : Nat} {m : Mem} {K : AV → Prop} : loadK Try.prog 68 m (.at (.pa κ ver sz j off)) K = (off + 2 ≤ sz ∧ rowAt (todo (m κ)) ver sz j fun r => evK (todo (((r.drop off).take 2).map A.v)) fun cs => K (.ag cs)) := loadK_paB agg_lawsDepot sz_lawsDepot
attribute [go_sem] ld_lawsDepot ti_lawsDepot lp_lawsDepot
theorem fp_lawsDepot_0 {cs : List Value} {K : AV → Prop} : onO (fieldAddrS Try.prog 68 0 (.at (.pi cs))) K = evK (todo (cs.drop 0)) (fun c => K (.at (.pi c))) := fa_pi (fd := ⟨"Cell", 3, 0, false, "", "", 0⟩) Try.underlying68 rfl sz_int
theorem fo_lawsDepot_0 {κ ver sz i off : Nat} {K : AV → Prop} : onO (fieldAddrS Try.prog 68 0 (.at (.pa κ ver sz i off))) K = evK (todo (off + 0)) (fun o => K (.at (.pa κ ver sz i o))) := fa_pa (fd := ⟨"Cell", 3, 0, false, "", "", 0⟩) Try.underlying68 rfl sz_int
theorem fb_lawsDepot_0 {κ ver off : Nat} {K : AV → Prop} : onO (fieldAddrS Try.prog 68 0 (.at (.bx κ ver off))) K = evK (todo (off + 0)) (fun o => K (.at (.bx κ ver o))) := fa_bx (fd := ⟨"Cell", 3, 0, false, "", "", 0⟩) Try.underlying68 rfl sz_int
theorem fg_lawsDepot_0 {cs : List A} {K : AV → Prop} : onR (fieldS Try.prog 68 0 (.ag cs)) K = onO (todo cs[0]?) fun a => K (.at a) := field_1K (fd := ⟨"Cell", 3, 0, false, "", "", 0⟩) Try.underlying68 rfl agg_int
attribute [go_sem] fp_lawsDepot_0 fo_lawsDepot_0 fb_lawsDepot_0 fg_lawsDepot_0
theorem fp_lawsDepot_1 {cs : List Value} {K : AV → Prop} : onO (fieldAddrS Try.prog 68 1 (.at (.pi cs))) K = evK (todo (cs.drop 1)) (fun c => K (.at (.pi c))) := fa_pi (fd := ⟨"Food", 3, 1, false, "", "", 8⟩) Try.underlying68 rfl sz_int
theorem fo_lawsDepot_1 {κ ver sz i off : Nat} {K : AV → Prop} : onO (fieldAddrS Try.prog 68 1 (.at (.pa κ ver sz i off))) K = evK (todo (off + 1)) (fun o => K (.at (.pa κ ver sz i o))) := fa_pa (fd := ⟨"Food", 3, 1, false, "", "", 8⟩) Try.underlying68 rfl sz_int
theorem fb_lawsDepot_1 {κ ver off : Nat} {K : AV → Prop} : onO (fieldAddrS Try.prog 68 1 (.at (.bx κ ver off))) K = evK (todo (off + 1)) (fun o => K (.at (.bx κ ver o))) := fa_bx (fd := ⟨"Food", 3, 1, false, "", "", 8⟩) Try.underlying68 rfl sz_int
theorem fg_lawsDepot_1 {cs : List A} {K : AV → Prop} : onR (fieldS Try.prog 68 1 (.ag cs)) K = onO (todo cs[1]?) fun a => K (.at a) := field_1K (fd := ⟨"Food", 3, 1, false, "", "", 8⟩) Try.underlying68 rfl agg_int
attribute [go_sem] fp_lawsDepot_1 fo_lawsDepot_1 fb_lawsDepot_1 fg_lawsDepot_1
theorem lb_lawsDepot {m : Mem} {κ ver off : Nat} {K : AV → Prop} : onR (loadS Try.prog 68 m (.at (.bx κ ver off))) K = boxAt (todo (m κ)) ver fun cells => off + 2 ≤ cells.length ∧ evK (todo ((cells.drop off).take 2)) fun cs => K (.ag cs) := load_bxKN agg_lawsDepot sz_lawsDepot
theorem sb_lawsDepot {m : Mem} {κ ver off : Nat} {X : AV} {K : Mem → Prop} : onR (storeS Try.prog 68 m (.at (.bx κ ver off)) X) K = boxAt (todo (m κ)) ver fun cells => onO (todo (atomsOf X)) fun new => new.length = 2 ∧ off + 2 ≤ cells.length ∧ evK (todo (splice cells off new)) fun cs => K (upd m κ (.box ver cs)) := store_bxK sz_lawsDepot
theorem sp_lawsDepot {m : Mem} {κ ver sz j off : Nat} {X : AV} {K : Mem → Prop} : onR (storeS Try.prog 68 m (.at (.pa κ ver sz j off)) X) K = arrAt (todo (m κ)) ver sz fun rows => onO (todo ((atomsOf X).bind valsOf)) fun us => us.length = 2 ∧ (j < rows.length ∧ off + 2 ≤ sz) ∧ evK (todo (rows.set j (splice (rows.getD j []) off us))) fun rs => K (upd m κ (.arr ver sz rs)) := store_paK sz_lawsDepot
attribute [go_sem] lb_lawsDepot sb_lawsDepot sp_lawsDepot
theorem und_lawsDepotS : Try.prog.underlying 27 = some (.slice 68) := Try.underlying27
theorem agg_lawsDepotS : aggT Try.prog 27 = some false := by kernel_rfl
theorem sz_lawsDepotS : szT Try.prog 27 = some 1 := by kernel_rfl
theorem ix_lawsDepotS {rows : List (List Value)} {k : IntKind} {i : Int} {K : AV → Prop} : onR (indexAddrS Try.prog 27 (.at (.im 2 rows)) (.at (.v (.int k i)))) K = ((0 ≤ i ∧ i < (rows.length : Int)) ∧ ∀ r, rows[i.toNat]? = some r → K (.at (.pi r))) := idx_im und_lawsDepotS sz_lawsDepot
theorem io_lawsDepotS {κ ver n : Nat} {k : IntKind} {i : Int} {K : AV → Prop} : onR (indexAddrS Try.prog 27 (.at (.ow κ ver 2 n)) (.at (.v (.int k i)))) K = ((0 ≤ i ∧ i < (n : Int)) ∧ evK (todo i.toNat) fun j => K (.at (.pa κ ver 2 j 0))) := idx_ow und_lawsDepotS sz_lawsDepot
theorem ln_lawsDepotS {sz : Nat} {rows : List (List Value)} {K : Value → Prop} : onO (lenS Try.prog 27 (.at (.im sz rows))) K = K (.int .i64 rows.length) := len_im und_lawsDepotS
theorem lo_lawsDepotS {κ ver sz n : Nat} {K : Value → Prop} : onO (lenS Try.prog 27 (.at (.ow κ ver sz n))) K = K (.int .i64 n) := len_ow und_lawsDepotS
theorem lz_lawsDepotS {K : Value → Prop} : onO (lenS Try.prog 27 (.at .nil)) K = K (.int .i64 0) := len_nil und_lawsDepotS
theorem si_lawsDepotS : siOf Try.prog 27 = some ⟨68, 2, 16, [.int .i64 0, .int .i64 0]⟩ := by kernel_rfl
theorem ci_lawsDepotS {nx : Nat} {q : Bool} {t : Nat → AV} {m : Mem} {rows : List (List Value)} {lo hi : Option Operand} {K : AV → Mem → Prop} : onM (sliceS Try.prog nx q 27 ⟨t, m⟩ (.at (.im 2 rows)) lo hi none) K = onO (todo (boundS ⟨t, m⟩ lo 0)) fun l => onO (todo (boundS ⟨t, m⟩ hi rows.length)) fun h => (0 ≤ l ∧ l ≤ h ∧ h ≤ (rows.length : Int)) ∧ evK (todo ((rows.drop l.toNat).take (h.toNat - l.toNat))) fun rs => K (.at (.im 2 rs)) m := cut_im_k und_lawsDepotS sz_lawsDepot
theorem cn_lawsDepotS {nx : Nat} {q : Bool} {t : Nat → AV} {m : Mem} {lo hi : Option Operand} {K : AV → Mem → Prop} : onM (sliceS Try.prog nx q 27 ⟨t, m⟩ (.at .nil) lo hi none) K = onO (todo (boundS ⟨t, m⟩ lo 0)) fun l => onO (todo (boundS ⟨t, m⟩ hi 0)) fun h => (l = 0 ∧ h = 0) ∧ K (.at .nil) m := cut_nil_k und_lawsDepotS sz_lawsDepot
attribute [go_sem] ix_lawsDepotS io_lawsDepotS ln_lawsDepotS lo_lawsDepotS lz_lawsDepotS si_lawsDepotS ci_lawsDepotS cn_lawsDepotS
attribute [go_sem] sz_lawsDepotS
theorem lb_lawsDepotS {m : Mem} {κ ver off : Nat} {K : AV → Prop} : onR (loadS Try.prog 27 m (.at (.bx κ ver off))) K = boxAt (todo (m κ)) ver fun cells => onO (todo cells[off]?) fun a => K (.at a) := load_bxK1 agg_lawsDepotS
theorem sb_lawsDepotS {m : Mem} {κ ver off : Nat} {X : AV} {K : Mem → Prop} : onR (storeS Try.prog 27 m (.at (.bx κ ver off)) X) K = boxAt (todo (m κ)) ver fun cells => onO (todo (atomsOf X)) fun new => new.length = 1 ∧ off + 1 ≤ cells.length ∧ evK (todo (splice cells off new)) fun cs => K (upd m κ (.box ver cs)) := store_bxK sz_lawsDepotS
theorem sp_lawsDepotS {m : Mem} {κ ver sz j off : Nat} {X : AV} {K : Mem → Prop} : onR (storeS Try.prog 27 m (.at (.pa κ ver sz j off)) X) K = arrAt (todo (m κ)) ver sz fun rows => onO (todo ((atomsOf X).bind valsOf)) fun us => us.length = 1 ∧ (j < rows.length ∧ off + 1 ≤ sz) ∧ evK (todo (rows.set j (splice (rows.getD j []) off us))) fun rs => K (upd m κ (.arr ver sz rs)) := store_paK sz_lawsDepotS
attribute [go_sem] lb_lawsDepotS sb_lawsDepotS sp_lawsDepotS
theorem agg_lawsParty : aggT Try.prog 31 = some true := by kernel_rfl
theorem sz_lawsParty : szT Try.prog 31 = some 4 := by kernel_rfl
theorem by_lawsParty : (Try.prog.info? 31).map (·.bytes) = some 64 := by kernel_rfl
theorem zv_lawsParty : zeroVals Try.prog 31 = some [.int .i64 0, .int .i64 0, .slice none 0 0, .slice none 0 0] := by kernel_rfl
theorem za_lawsParty : zeroAtoms Try.prog 31 = some [.v (.int .i64 0), .v (.int .i64 0), .nil, .nil] := by kernel_rfl
attribute [go_sem] za_lawsParty sz_lawsParty
theorem ld_lawsParty {m : Mem} {cs : List Value} {K : AV → Prop} : onR (loadS Try.prog 31 m (.at (.pi cs))) K = (4 ≤ cs.length ∧ evK (todo ((cs.take 4).map A.v)) fun cs => K (.ag cs)) := load_piN agg_lawsParty sz_lawsParty
theorem ti_lawsParty : tiOf Try.prog 31 = some ⟨[⟨"At", 3, 0, false, "", "", 0⟩, ⟨"Food", 3, 1, false, "", "", 8⟩, ⟨"Crew", 28, 2, false, "", "", 16⟩, ⟨"Past", 29, 3, false, "", "", 40⟩], [.v (.int .i64 0), .v (.int .i64 0), .nil, .nil]⟩ := by kernel_rfl
theorem lp_lawsParty {κ ver sz j off : Nat} {m : Mem} {K : AV → Prop} : loadK Try.prog 31 m (.at (.pa κ ver sz j off)) K = (off + 4 ≤ sz ∧ rowAt (todo (m κ)) ver sz j fun r => evK (todo (((r.drop off).take 4).map A.v)) fun cs => K (.ag cs)) := loadK_paB agg_lawsParty sz_lawsParty
attribute [go_sem] ld_lawsParty ti_lawsParty lp_lawsParty
theorem fp_lawsParty_0 {cs : List Value} {K : AV → Prop} : onO (fieldAddrS Try.prog 31 0 (.at (.pi cs))) K = evK (todo (cs.drop 0)) (fun c => K (.at (.pi c))) := fa_pi (fd := ⟨"At", 3, 0, false, "", "", 0⟩) Try.underlying31 rfl sz_int
theorem fo_lawsParty_0 {κ ver sz i off : Nat} {K : AV → Prop} : onO (fieldAddrS Try.prog 31 0 (.at (.pa κ ver sz i off))) K = evK (todo (off + 0)) (fun o => K (.at (.pa κ ver sz i o))) := fa_pa (fd := ⟨"At", 3, 0, false, "", "", 0⟩) Try.underlying31 rfl sz_int
theorem fb_lawsParty_0 {κ ver off : Nat} {K : AV → Prop} : onO (fieldAddrS Try.prog 31 0 (.at (.bx κ ver off))) K = evK (todo (off + 0)) (fun o => K (.at (.bx κ ver o))) := fa_bx (fd := ⟨"At", 3, 0, false, "", "", 0⟩) Try.underlying31 rfl sz_int
theorem fg_lawsParty_0 {cs : List A} {K : AV → Prop} : onR (fieldS Try.prog 31 0 (.ag cs)) K = onO (todo cs[0]?) fun a => K (.at a) := field_1K (fd := ⟨"At", 3, 0, false, "", "", 0⟩) Try.underlying31 rfl agg_int
attribute [go_sem] fp_lawsParty_0 fo_lawsParty_0 fb_lawsParty_0 fg_lawsParty_0
theorem fp_lawsParty_1 {cs : List Value} {K : AV → Prop} : onO (fieldAddrS Try.prog 31 1 (.at (.pi cs))) K = evK (todo (cs.drop 1)) (fun c => K (.at (.pi c))) := fa_pi (fd := ⟨"Food", 3, 1, false, "", "", 8⟩) Try.underlying31 rfl sz_int
theorem fo_lawsParty_1 {κ ver sz i off : Nat} {K : AV → Prop} : onO (fieldAddrS Try.prog 31 1 (.at (.pa κ ver sz i off))) K = evK (todo (off + 1)) (fun o => K (.at (.pa κ ver sz i o))) := fa_pa (fd := ⟨"Food", 3, 1, false, "", "", 8⟩) Try.underlying31 rfl sz_int
theorem fb_lawsParty_1 {κ ver off : Nat} {K : AV → Prop} : onO (fieldAddrS Try.prog 31 1 (.at (.bx κ ver off))) K = evK (todo (off + 1)) (fun o => K (.at (.bx κ ver o))) := fa_bx (fd := ⟨"Food", 3, 1, false, "", "", 8⟩) Try.underlying31 rfl sz_int
theorem fg_lawsParty_1 {cs : List A} {K : AV → Prop} : onR (fieldS Try.prog 31 1 (.ag cs)) K = onO (todo cs[1]?) fun a => K (.at a) := field_1K (fd := ⟨"Food", 3, 1, false, "", "", 8⟩) Try.underlying31 rfl agg_int
attribute [go_sem] fp_lawsParty_1 fo_lawsParty_1 fb_lawsParty_1 fg_lawsParty_1
theorem fp_lawsParty_2 {cs : List Value} {K : AV → Prop} : onO (fieldAddrS Try.prog 31 2 (.at (.pi cs))) K = evK (todo (cs.drop 2)) (fun c => K (.at (.pi c))) := fa_pi (fd := ⟨"Crew", 28, 2, false, "", "", 16⟩) Try.underlying31 rfl sz_lawsMemberS
theorem fo_lawsParty_2 {κ ver sz i off : Nat} {K : AV → Prop} : onO (fieldAddrS Try.prog 31 2 (.at (.pa κ ver sz i off))) K = evK (todo (off + 2)) (fun o => K (.at (.pa κ ver sz i o))) := fa_pa (fd := ⟨"Crew", 28, 2, false, "", "", 16⟩) Try.underlying31 rfl sz_lawsMemberS
theorem fb_lawsParty_2 {κ ver off : Nat} {K : AV → Prop} : onO (fieldAddrS Try.prog 31 2 (.at (.bx κ ver off))) K = evK (todo (off + 2)) (fun o => K (.at (.bx κ ver o))) := fa_bx (fd := ⟨"Crew", 28, 2, false, "", "", 16⟩) Try.underlying31 rfl sz_lawsMemberS
theorem fg_lawsParty_2 {cs : List A} {K : AV → Prop} : onR (fieldS Try.prog 31 2 (.ag cs)) K = onO (todo cs[2]?) fun a => K (.at a) := field_1K (fd := ⟨"Crew", 28, 2, false, "", "", 16⟩) Try.underlying31 rfl agg_lawsMemberS
attribute [go_sem] fp_lawsParty_2 fo_lawsParty_2 fb_lawsParty_2 fg_lawsParty_2
theorem fp_lawsParty_3 {cs : List Value} {K : AV → Prop} : onO (fieldAddrS Try.prog 31 3 (.at (.pi cs))) K = evK (todo (cs.drop 3)) (fun c => K (.at (.pi c))) := fa_pi (fd := ⟨"Past", 29, 3, false, "", "", 40⟩) Try.underlying31 rfl sz_boolS
theorem fo_lawsParty_3 {κ ver sz i off : Nat} {K : AV → Prop} : onO (fieldAddrS Try.prog 31 3 (.at (.pa κ ver sz i off))) K = evK (todo (off + 3)) (fun o => K (.at (.pa κ ver sz i o))) := fa_pa (fd := ⟨"Past", 29, 3, false, "", "", 40⟩) Try.underlying31 rfl sz_boolS
theorem fb_lawsParty_3 {κ ver off : Nat} {K : AV → Prop} : onO (fieldAddrS Try.prog 31 3 (.at (.bx κ ver off))) K = evK (todo (off + 3)) (fun o => K (.at (.bx κ ver o))) := fa_bx (fd := ⟨"Past", 29, 3, false, "", "", 40⟩) Try.underlying31 rfl sz_boolS
theorem fg_lawsParty_3 {cs : List A} {K : AV → Prop} : onR (fieldS Try.prog 31 3 (.ag cs)) K = onO (todo cs[3]?) fun a => K (.at a) := field_1K (fd := ⟨"Past", 29, 3, false, "", "", 40⟩) Try.underlying31 rfl agg_boolS
attribute [go_sem] fp_lawsParty_3 fo_lawsParty_3 fb_lawsParty_3 fg_lawsParty_3
theorem lb_lawsParty {m : Mem} {κ ver off : Nat} {K : AV → Prop} : onR (loadS Try.prog 31 m (.at (.bx κ ver off))) K = boxAt (todo (m κ)) ver fun cells => off + 4 ≤ cells.length ∧ evK (todo ((cells.drop off).take 4)) fun cs => K (.ag cs) := load_bxKN agg_lawsParty sz_lawsParty
theorem sb_lawsParty {m : Mem} {κ ver off : Nat} {X : AV} {K : Mem → Prop} : onR (storeS Try.prog 31 m (.at (.bx κ ver off)) X) K = boxAt (todo (m κ)) ver fun cells => onO (todo (atomsOf X)) fun new => new.length = 4 ∧ off + 4 ≤ cells.length ∧ evK (todo (splice cells off new)) fun cs => K (upd m κ (.box ver cs)) := store_bxK sz_lawsParty
theorem sp_lawsParty {m : Mem} {κ ver sz j off : Nat} {X : AV} {K : Mem → Prop} : onR (storeS Try.prog 31 m (.at (.pa κ ver sz j off)) X) K = arrAt (todo (m κ)) ver sz fun rows => onO (todo ((atomsOf X).bind valsOf)) fun us => us.length = 4 ∧ (j < rows.length ∧ off + 4 ≤ sz) ∧ evK (todo (rows.set j (splice (rows.getD j []) off us))) fun rs => K (upd m κ (.arr ver sz rs)) := store_paK sz_lawsParty
attribute [go_sem] lb_lawsParty sb_lawsParty sp_lawsParty
end Go.Abs
